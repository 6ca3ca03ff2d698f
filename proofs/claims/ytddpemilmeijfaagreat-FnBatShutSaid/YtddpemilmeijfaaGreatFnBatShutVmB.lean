/- A small machine that evaluates the model's code, and that it is right, part 2. No condition. -/
import Derived.Test.YtddpemilmeijfaaGreatFnBatShutVmA
import Derived.Deep.AppendSrc
import Derived.Calls
import Derived.Tactics
set_option linter.unusedVariables false
set_option linter.unusedSimpArgs false
namespace Go.Vm
section
variable {P : Program} {X : Ctx} {w : World} {st : Blks} {ρ : Nat -> Value} {φ : Nat -> Blks} {n : Nat} {a : Act} {s : St} {o : Oper} {hp : Nat -> Ob}
theorem Qj9 {o : Ob} : o.isNone = true ↔ o = .none := by cases o <;> simp [Ob.isNone]
theorem Qmn {D : List Nat} {d : Nat} (h : s.hp d = .none) : (s.scrub D).hp d = .none := by
 cases D with
 | nil => exact h
 | cons x D =>
  show (bif mem d (x :: D) then Ob.none else (s.hp d).mapA _) = _
  cases mem d (x :: D)
  ·rw [h]; rfl
  ·rfl
theorem Qg1 {D : List Nat} {id : Nat} (h : (s.scrub D).hp id ≠ .none) : s.hp id ≠ .none /\ id ∉ D := by
 cases D with
 | nil => exact ⟨h, by simp⟩
 | cons x D =>
  have h' : (bif mem id (x :: D) then Ob.none else (s.hp id).mapA (AV.scrub (x :: D))) ≠ .none := h
  cases hm : mem id (x :: D)
  ·rw [hm] at h'
   exact ⟨fun e => h' (by rw [e]; rfl), Qaq.1 hm⟩
  ·rw [hm] at h'; exact absurd rfl h'
theorem Sim.make {w' : World} {D : List Nat} {d : Nat} {T : TypeId} {e : Sh} {xs : List e.den} {r : Value} {F : Blks} (h : Sim w st ρ φ n a s) (hd : s.hp d = .none)
  (hw : ∀ b, st b -> w'.heap[b]? = w.heap[b]?) (hφ : ∀ id, id ∉ D -> ∀ b, φ id b -> w'.heap[b]? = w.heap[b]?) (hsz : w.heap.size <= w'.heap.size)
  (hF : ∀ b, F b -> ((∃ id ∈ D, φ id b) ∨ w.heap.size <= b) /\ b < w'.heap.size) (hob : Ow w' (.sl T e) xs [r] F) :
  Sim w' st (Go.Vm.upd ρ d r) (fun id b => if id = d then F b else φ id b /\ id ∉ D) n a ⟨(s.scrub D).env, updL (s.scrub D).hp [(d, .arr T e xs)]⟩ := by
 have hs := h.scrub D
 have hdn := Qmn (D := D) hd
 have hφd : ∀ b, ¬ φ d b := by have := h.ob d; rw [hd] at this; exact this
 refine hs.upd (by simp) (fun _ h => h) hw (fun id hid => ?_) (by simp) (fun q hq => ?_) (fun _ => true) (fun q hq hne => ?_) (by simp) (fun id b hb => ?_) (fun i j b h1 h2 => ?_) (fun b hb => Nat.lt_of_lt_of_le (h.stlt b hb) hsz) (by simp [Ob.ids])
 ·have hne : id ≠ d := by simpa using hid
  refine ⟨Qa5 _ _ hne, by funext b; simp [hne], fun b hb => hφ id hb.2 b hb.1⟩
 ·simp at hq; subst hq
  show Ow w' (.sl T e) xs [Go.Vm.upd ρ d r d] (fun b => if d = d then F b else _)
  rw [Qa0]
  exact Ow_up (fun b hb => by simpa using hb) hob
 ·simp at hq; subst hq; exact absurd hdn hne
 ·by_cases hid : id = d
  ·simp only [hid, if_true] at hb
   obtain ⟨hb1, hb2⟩ := hF b hb
   refine ⟨hb2, fun hst => ?_⟩
   rcases hb1 with ⟨i, _, hi⟩ | hb1
   ·exact (h.lt i b hi).2 hst
   ·have := h.stlt b hst; omega
  ·simp only [hid, if_false] at hb
   exact ⟨Nat.lt_of_lt_of_le (h.lt id b hb.1).1 hsz, (h.lt id b hb.1).2⟩
 ·by_cases hi : i = d <;> by_cases hj : j = d
  ·rw [hi, hj]
  ·simp only [hi, if_true] at h1; simp only [hj, if_false] at h2
   exfalso
   rcases (hF b h1).1 with ⟨k, hk, hkb⟩ | hge
   ·have := h.dj k j b hkb h2.1; subst this; exact h2.2 hk
   ·have := (h.lt j b h2.1).1; omega
  ·simp only [hj, if_true] at h2; simp only [hi, if_false] at h1
   exfalso
   rcases (hF b h2).1 with ⟨k, hk, hkb⟩ | hge
   ·have := h.dj k i b hkb h1.1; subst this; exact h1.2 hk
   ·have := (h.lt i b h1.1).1; omega
  ·simp only [hi, hj, if_false] at h1 h2
   exact h.dj i j b h1.1 h2.1
theorem Qdv {w' : World} {D : List Nat} {d : Nat} {T : TypeId} {e : Sh} {xs : List e.den} {r : Value} {F : Blks} (h : Sim w st ρ φ X.n a s) (hdst : o.dst = some d) (hd : s.hp d = .none) (hok : dstOk X o.dst = true) (h5 : d % 10000 < 5000)
  (hrun : (execOp a.eval o).run P w = .ok (.value r) w')
  (hos : w'.os = w.os) (htape : w'.tape = w.tape) (hout : w'.output = w.output)
  (hkeep : ∀ b, b < w.heap.size -> (∀ id ∈ D, ¬ φ id b) -> w'.heap[b]? = w.heap[b]?) (hsz : w.heap.size <= w'.heap.size)
  (hF : ∀ b, F b -> ((∃ id ∈ D, φ id b) ∨ w.heap.size <= b) /\ b < w'.heap.size) (hob : Ow w' (.sl T e) xs [r] F) (c : Bool) :
  Does P X o w st ρ φ a s ⟨c, .sref d none [], [(d, .arr T e xs)], D, []⟩ := by
 have hm := h.make (D := D) (r := r) hd (fun b hb => hkeep b (h.stlt b hb) (fun id _ hid => (h.lt id b hid).2 hb))
  (fun id hid b hb => hkeep b (h.lt id b hb).1 (fun j hj hjb => hid (h.dj id j b hb hjb ▸ hj))) hsz hF hob
 have hone : r.oneCell' = true := by
  have := Qc2 hob r (by simp); exact this
 refine ⟨_, r, w', st, _, _, hrun, .inl rfl, hm.put o.dst r _ (fun q hq => ?_) ?_ ?_, ?_⟩
 ·rw [hq] at hok; simpa [dstOk, Nat.blt_eq] using hok
 ·refine Qa1 (av := .sref d none []) ⟨rfl, ⟨T, e, xs, ?_⟩, ?_, ?_⟩ rfl rfl
  ·left; show upd _ d _ d = _; rw [Qa0]
  ·rw [Qa0]
  ·rw [Qa0]; exact hone
 ·intro id hid
  simp [AV.ids] at hid; subst hid
  show upd _ id _ id ≠ _; rw [Qa0]; simp
 ·refine ⟨hos, htape, hout, hsz, fun b hb hn => hkeep b hb (fun id _ => hn id), fun _ h => h, fun _ h => .inl h, fun id b hb => ?_, fun id hp5 hn => ?_⟩
  ·by_cases hid : id = d
   ·simp only [hid, if_true] at hb
    rcases (hF b hb).1 with ⟨i, _, hi⟩ | hge
    ·exact .inl ⟨i, hi⟩
    ·exact .inr hge
   ·simp only [hid, if_false] at hb; exact .inl ⟨id, hb.1⟩
  ·have hne : id ≠ d := fun e => by rw [e] at hp5; omega
   have hn' : upd (s.scrub D).hp d (.arr T e xs) id ≠ .none := by
    have : (s.app o.dst ⟨c, .sref d none [], [(d, .arr T e xs)], D, []⟩).hp id = upd (s.scrub D).hp d (.arr T e xs) id := by
     rw [hdst]; rfl
    rw [<- this]; exact hn
   rw [Qa5 _ _ hne] at hn'
   exact ⟨(Qg1 hn').1, Qa5 _ _ hne⟩
theorem Qdg {α : Type} {R : α -> List Value -> Blks -> Prop} {sz : Nat} : ∀ {xs : List α} {cs cs' : List Value} {F : Blks}, OwL R sz xs cs F -> (∀ k, k < xs.length * sz -> cs'[k]? = cs[k]?) -> OwL R sz xs cs' F
 | [], _, _, _, _, _ => trivial
 | x :: xs, cs, cs', F, ⟨F1, F2, h1, h2, h3, h4, h5⟩, hc => by
  have hl : (x :: xs).length * sz = sz + xs.length * sz := by rw [List.length_cons, Nat.add_mul]; omega
  refine ⟨F1, F2, h1, h2, h3, ?_, Qdg h5 (fun k hk => ?_)⟩
  ·have : cs'.take sz = cs.take sz := by
    have := Qj2 (cs := cs) (cs' := cs') (a := 0) (n := sz) (fun k _ hk => hc k (by omega))
    simpa using this
   rw [this]; exact h4
  ·simp only [List.getElem?_drop]
   exact hc _ (by omega)
theorem Qg2 {α : Type} {R : α -> List Value -> Blks -> Prop} {sz : Nat} : ∀ {xs ys : List α} {c1 c2 : List Value} {F1 F2 F : Blks}, OwL R sz xs c1 F1 -> OwL R sz ys c2 F2 -> c1.length = xs.length * sz ->
  (∀ b, F1 b -> F2 b -> False) -> (∀ b, F1 b -> F b) -> (∀ b, F2 b -> F b) -> OwL R sz (xs ++ ys) (c1 ++ c2) F
 | [], ys, c1, c2, F1, F2, F, _, h2, hl, _, _, hF => by
  have : c1 = [] := List.eq_nil_of_length_eq_zero (by simpa using hl)
  subst this
  exact Qms hF h2
 | x :: xs, ys, c1, c2, F1, F2, F, ⟨G1, G2, g1, g2, g3, g4, g5⟩, h2, hl, hdis, hF1, hF2 => by
  have hl' : c1.length = sz + xs.length * sz := by rw [hl, List.length_cons, Nat.add_mul]; omega
  refine ⟨G1, fun b => G2 b ∨ F2 b, ?_, fun b hb => hF1 b (g2 b hb), ?_, ?_, ?_⟩
  ·rintro b hb (h | h)
   ·exact g1 b hb h
   ·exact hdis b (g2 b hb) h
  ·rintro b (h | h)
   ·exact hF1 b (g3 b h)
   ·exact hF2 b h
  ·rw [List.take_append_of_le_length (by omega)]; exact g4
  ·rw [List.drop_append_of_le_length (by omega)]
   exact Qg2 g5 h2 (by rw [List.length_drop]; omega) (fun b h1 h2 => hdis b (g3 b h1) h2) (fun b h => .inl h) (fun b h => .inr h)
theorem Qjl {α : Type} {R : α -> List Value -> Blks -> Prop} {sz : Nat} (hR : ∀ x c G, R x c G -> c.length = sz /\ Ones c) : ∀ {xs : List α} {cs : List Value} {F : Blks}, OwL R sz xs cs F -> Ones (cs.take (xs.length * sz)) /\ xs.length * sz <= cs.length
 | [], cs, _, _ => by simp [Ones]
 | x :: xs, cs, F, ⟨F1, F2, h1, h2, h3, h4, h5⟩ => by
  obtain ⟨hl, ho⟩ := hR _ _ _ h4
  obtain ⟨ih1, ih2⟩ := Qjl hR h5
  rw [List.length_take] at hl
  rw [List.length_drop] at ih2
  have e : (x :: xs).length * sz = sz + xs.length * sz := by rw [List.length_cons, Nat.add_mul]; omega
  refine ⟨?_, by omega⟩
  rw [e]
  have : cs.take (sz + xs.length * sz) = cs.take sz ++ (cs.drop sz).take (xs.length * sz) := by
   rw [List.take_add]
  rw [this]
  intro v hv
  rcases List.mem_append.1 hv with hv | hv
  ·exact ho v hv
  ·exact ih1 v hv
theorem Ow_R (w : World) (e : Sh) : ∀ (x : e.den) c G, Ow w e x c G -> c.length = e.size /\ Ones c := fun x c G h => ⟨Qb9 h, Qc2 h⟩
theorem Qqv {e : Sh} (hf : e.flat = true) {w0 : World} {st0 : Blks} {b : Nat} : ∀ (xs : List e.den) (o : Nat), (∀ i x, xs[i]? = some x -> ∃ cc, Im w0 st0 e x cc /\ ∀ j v, cc[j]? = some v -> w0.cell? ⟨b, o + i * e.size + j, none⟩ = some v) ->
  ∃ news : List Value, news.length = xs.length * e.size /\ (∀ j v, news[j]? = some v -> w0.cell? ⟨b, o + j, none⟩ = some v) /\ Ones news /\ ∀ (w' : World) (F : Blks), OwL (fun x c G => Ow w' e x c G) e.size xs news F
 | [], o, _ => ⟨[], by simp, by simp, by simp [Ones], fun _ _ => trivial⟩
 | x :: xs, o, h => by
  obtain ⟨cc, h1, h2⟩ := h 0 x rfl
  obtain ⟨news, g1, g2, g3, g4⟩ := Qqv hf xs (o + e.size) (fun i y hy => by
   obtain ⟨c, hc1, hc2⟩ := h (i + 1) y (by simpa using hy)
   refine ⟨c, hc1, fun j v hv => ?_⟩
   rw [<- hc2 j v hv]; congr 2; rw [Nat.add_mul]; omega)
  have hl := Qbn h1
  refine ⟨cc ++ news, by rw [List.length_append, hl, g1, List.length_cons, Nat.add_mul]; omega, ?_, ?_, ?_⟩
  ·intro j v hv
   by_cases hj : j < cc.length
   ·rw [List.getElem?_append_left hj] at hv
    have := h2 j v hv
    simpa using this
   ·rw [List.getElem?_append_right (by omega)] at hv
    rw [<- g2 _ v hv]; congr 2; omega
  ·intro v hv
   rcases List.mem_append.1 hv with hv | hv
   ·exact Qgt h1 v hv
   ·exact g3 v hv
  ·intro w' F
   refine ⟨fun _ => False, F, fun _ h _ => h, fun _ h => h.elim, fun _ h => h, ?_, ?_⟩
   ·rw [List.take_append_of_le_length (by omega), List.take_of_length_le (by omega)]; exact Im_Ow hf h1
   ·have : (cc ++ news).drop e.size = news := by rw [<- hl, List.drop_left]
    rw [this]; exact g4 w' F
theorem Qsr {T t : TypeId} {e : Sh} {nf : Nat} (hA : TyAll P X) (hT : X.ty t = some (.sl T e, nf)) (h : Sim w st ρ φ n a s) (hle : Le hp s.hp) {v : AV} {y : Value} (hv : RV w st ρ s.hp v y) {ys : List e.den} {D : List Nat} (hr : appRight hp T e v = some (ys, D)) (hD : D.Nodup) :
  ∃ news : List Value, Src P e.size t y ys.length news w /\ (∀ w' : World, (∀ id ∈ D, ∀ b, φ id b -> w'.heap[b]? = w.heap[b]?) -> OwL (fun x c G => Ow w' e x c G) e.size ys news (fun b => ∃ id ∈ D, φ id b)) := by
 obtain ⟨d, hu, rfl, _⟩ := (hA _ _ _ hT).und
 unfold appRight at hr
 cases hf : e.flat with
 | true =>
  rw [hf] at hr; simp only [cond_true] at hr
  cases ht : toVal hp (.sl T e) v with
  | none => rw [ht] at hr; cases hr
  | some zs =>
   rw [ht] at hr; cases hr
   obtain ⟨cs, hvr, hrc⟩ := Qeb ht hv
   obtain ⟨A, cap, ee, _, hel⟩ := Qcv h hle ht hrc
   rcases hvr with ⟨hh, _⟩ | ⟨_, hvr⟩
   ·cases hh
   rw [hvr] at ee; cases ee
   by_cases hne : ys = []
   ·subst hne
    cases A with
    | none => exact ⟨[], Src.ofNil w hu cap, fun _ _ => trivial⟩
    | some ad => exact ⟨[], Src.ofSlice w hu ad 0 cap [] (by simp) (by simp) (by simp), fun _ _ => trivial⟩
   ·obtain ⟨b, of, rfl, hst, hc⟩ := hel hne
    obtain ⟨news, g1, g2, g3, g4⟩ := Qqv hf ys of hc
    exact ⟨news, Src.ofSlice w hu ⟨b, of, none⟩ _ cap news g1 (fun j u hj => by rw [Qcz]; exact g2 j u hj) g3, fun w' _ => g4 w' _⟩
 | false =>
  rw [hf] at hr; simp only [cond_false] at hr
  cases v with
  | val t' y' =>
   obtain ⟨e', hff, _⟩ := Qck hr
   subst e'; simp [Sh.flat] at hff
  | nilv T' e' =>
   obtain ⟨rfl, rfl⟩ := Qdf hr
   obtain ⟨A, ee⟩ := Qao hv rfl rfl (by simp)
   have ee : y = .slice A 0 0 := by simpa using ee
   subst ee
   cases A with
   | none => exact ⟨[], Src.ofNil w hu 0, fun _ _ => trivial⟩
   | some ad => exact ⟨[], Src.ofSlice w hu ad 0 0 [] (by simp) (by simp) (by simp), fun _ _ => trivial⟩
  | sref id ix p =>
   obtain ⟨rfl, rfl, rfl, hq⟩ := Qcp hr
   obtain ⟨_, _, ee, _⟩ := Qao hv rfl rfl (by simp)
   have ee : y = ρ id := by simpa using ee
   have hob := h.ob id
   rw [hle.get hq (by simp)] at hob
   rcases hob with ⟨rfl, A, hA'⟩ | ⟨b, cap, arr, F', hA', g1, g2, g3, g4, g5, g6, g7, g8⟩
   ·have hA' : ρ id = .slice A 0 0 := by simpa using hA'
    rw [ee, hA']
    cases A with
    | none => exact ⟨[], Src.ofNil w hu 0, fun _ _ => trivial⟩
    | some ad => exact ⟨[], Src.ofSlice w hu ad 0 0 [] (by simp) (by simp) (by simp), fun _ _ => trivial⟩
   ·have hA' : ρ id = .slice (some ⟨b, 0, none⟩) ys.length cap := by simpa using hA'
    obtain ⟨o1, o2⟩ := Qjl (Ow_R w e) g8
    refine ⟨arr.toList.take (ys.length * e.size), ?_, fun w' hw' => ?_⟩
    ·rw [ee, hA']
     refine Src.ofSlice w hu _ _ _ _ (by rw [List.length_take]; omega) (fun j u hj => ?_) o1
     rw [Qcz]
     have := Qbo (o := 0) (sz := ys.length * e.size) g4 j u (by simpa using hj)
     exact this
    ·have := Qd9 (R' := fun x c G => Ow w' e x c G) (fun x c G hG hx => Qbw (fun b hb => hw' id (by simp) b (g3 b (hG b hb))) hx) g8
     have := Qms (F' := fun b => ∃ j ∈ [id], φ j b) (fun b hb => ⟨id, by simp, g3 b hb⟩) this
     exact Qdg this (fun k hk => by rw [List.getElem?_take, if_pos hk])
  | _ => cases hr
theorem Qht {t tx ty e : TypeId} {i : TypeInfo} (ht : P.underlying t = some (.slice e)) (hi : P.info? e = some i)
  {g sLen sCap : Nat} {cur : Array Value} {e0 : TypeId} (hg : w.heap[g]? = some (.cells cur e0 (0, 0))) {x : Value} {m : Nat} {news : List Value} (hs : Src P i.size tx x m news w)
  (hroom : sLen + m <= sCap) (hfit : sLen * i.size + news.length <= cur.size) :
  (Builtin.append_ #[t, tx] ty #[.slice (some ⟨g, 0, none⟩) sLen sCap, x]).run P w =
   .ok (.slice (some ⟨g, 0, none⟩) (sLen + m) sCap) (w.setRow g (patch cur.toList (sLen * i.size) news).toArray) := by
 have hst := run_storeCells_at P g (sLen * i.size) e0 news 0 cur w hg (by simpa using hfit) hs.one
 simp only [Nat.add_zero] at hst
 rcases hs.kind with ⟨e', hk⟩ | hk <;> simp [Builtin.append_, run_underlying ht, run_underlying hk, sizeOf, typeInfo, hi, hs.len, hroom, hs.cells, Addr.add_lit, hst, patch]
theorem Qf4 {t tx ty e : TypeId} {i : TypeInfo} (ht : P.underlying t = some (.slice e)) (hi : P.info? e = some i) {A : Option Addr} {x : Value} (hs : Src P i.size tx x 0 [] w) :
  (Builtin.append_ #[t, tx] ty #[.slice A 0 0, x]).run P w = .ok (.slice A 0 0) w := by
 rcases hs.kind with ⟨e', hk⟩ | hk <;> cases A <;> simp [Builtin.append_, run_underlying ht, run_underlying hk, sizeOf, typeInfo, hi, hs.len, hs.cells, storeCells]
theorem Qer {cs cu : List Value} {o : Nat} (h : o + cu.length <= cs.length) : (patch cs o cu).length = cs.length := by
 simp [patch]; omega
theorem Qes {cs cu : List Value} {o k : Nat} (h : o + cu.length <= cs.length) (hk : k < o ∨ o + cu.length <= k) : (patch cs o cu)[k]? = cs[k]? := by
 unfold patch
 rcases hk with hk | hk
 ·rw [List.append_assoc, List.getElem?_append_left (by simp; omega), List.getElem?_take, if_pos hk]
 ·rw [List.getElem?_append_right (by simp; omega), List.getElem?_drop]
  congr 1; simp; omega
theorem Qjm {cs cu : List Value} {o : Nat} (h : o + cu.length <= cs.length) : ((patch cs o cu).drop o).take cu.length = cu := by
 unfold patch
 rw [List.append_assoc, List.drop_append_of_le_length (by simp; omega)]
 rw [List.drop_of_length_le (by simp; omega), List.nil_append, List.take_left]
theorem Qn6 (hA : TyAll P X) {c : Call} (ho : o.op = .call c) (hcal : c.callee = .builtin .append) {x y : Operand} {t : TypeId} (ha : c.args.toList = [x, y]) (hts : c.argTypes.toList = [t, t]) {d : Nat} (hdst : o.dst = some d)
  (h : Sim w st ρ φ X.n a s) (hd : dstOk X o.dst = true) (hle : Le hp s.hp) {T : TypeId} {e : Sh} {nf : Nat} (hT : X.ty t = some (.sl T e, nf)) {r : Res}
  (hr : appendAV hp d T e (rho X s.env t x) (rho X s.env t y) = some r) (hc : r.c = true) (hfree : s.hp d = .none) (h5 : d % 10000 < 5000) : Does P X o w st ρ φ a s r := by
 have rx := Qap h t x
 have ry := Qap h t y
 have hargs : c.args = #[x, y] := by rw [<- Array.toArray_toList (xs := c.args), ha]
 have hT2 : c.argTypes = #[t, t] := by rw [<- Array.toArray_toList (xs := c.argTypes), hts]
 obtain ⟨dd, hu, rfl, m0, hE⟩ := (hA _ _ _ hT).und
 have hEt := hA _ _ _ hE
 obtain ⟨i, hi, his, hib, z, hz, hzc⟩ := hEt.info
 unfold appendAV at hr
 cases hl : appLeft hp T e (rho X s.env t x) with
 | none => rw [hl] at hr; simp at hr
 | some L =>
  obtain ⟨xs, l⟩ := L
  cases hR : appRight hp T e (rho X s.env t y) with
  | none => rw [hl, hR] at hr; simp at hr
  | some M =>
   obtain ⟨ys, m⟩ := M
   rw [hl, hR] at hr; simp only at hr
   cases hcond : (nodup (l ++ m) && (hp d).isNone)
   ·rw [hcond] at hr; cases hr
   rw [hcond] at hr; simp only [cond_true, Option.some.injEq] at hr
   subst hr
   simp only [Bool.and_eq_true] at hcond
   have hnd := Qb1.1 hcond.1
   have hnd' := List.nodup_append.1 hnd
   simp only [decide_eq_true_eq] at hc
   obtain ⟨news, hsrc, hrow⟩ := Qsr hA hT h hle ry hR hnd'.2.1
   have hnl : news.length = ys.length * e.size := hsrc.newsLen
   have hexec : ∀ {r w'}, (Builtin.append_ #[t, t] o.type #[a.eval x, a.eval y]).run P w = .ok r w' -> (execOp a.eval o).run P w = .ok (.value r) w' := fun hrun => by
    simp [execOp, ho, resolve, hcal, invoke, builtin, hargs, hT2, hrun]
   rw [<- his] at hsrc
   -- the first argument
   have hleft : (xs = [] /\ l = [] /\ ∃ A, a.eval x = .slice A 0 0) ∨ ∃ id, l = [id] /\ s.hp id = .arr T e xs /\ a.eval x = ρ id := by
    cases hx : rho X s.env t x with
    | nilv T' e' =>
     rw [hx] at hl rx
     simp only [appLeft] at hl
     split at hl
     ·cases hl
      obtain ⟨A, ee⟩ := Qao rx rfl rfl (by simp)
      exact .inl ⟨rfl, rfl, A, by simpa using ee⟩
     ·cases hl
    | sref id ix p =>
     rw [hx] at hl rx
     cases ix with
     | some _ => simp [appLeft] at hl
     | none =>
      cases p with
      | cons _ _ => simp [appLeft] at hl
      | nil =>
       simp only [appLeft] at hl
       cases hq : hp id with
       | arr T' e' zs =>
        rw [hq] at hl; simp only at hl
        cases hcs : cst (.sl T' e') (.sl T e) zs with
        | none => rw [hcs] at hl; cases hl
        | some q =>
         rw [hcs] at hl
         obtain ⟨ee, he⟩ := Qbl hcs
         cases ee; cases hl; subst he
         obtain ⟨_, _, ee, _⟩ := Qao rx rfl rfl (by simp)
         exact .inr ⟨id, rfl, hle.get hq (by simp), by simpa using ee⟩
       | _ => rw [hq] at hl; cases hl
    | _ => rw [hx] at hl; cases hl
   have hbig : xs.length + ys.length <= 4294967296 := hc
   have hzl : z.cells.size = e.size := by
    have := Qcu hzc (Qc2 (w := w) (Qfe e (fun _ => False)))
    rw [<- Qj5 e, <- this]; simp
   -- growing: a new row
   have grow : ∀ (A : Option Addr) (cap : Nat) (olds : List Value), a.eval x = .slice A xs.length cap -> cap < xs.length + ys.length -> olds.length = xs.length * e.size ->
     (Builtin.firstCells i.size xs.length (.slice A xs.length cap)).run P w.drew = .ok olds.toArray w.drew ->
     OwL (fun x c G => Ow w e x c G) e.size xs olds (fun b => ∃ id ∈ l, φ id b) ->
     Does P X o w st ρ φ a s ⟨decide (xs.length + ys.length <= BIG), .sref d none [], [(d, .arr T e (xs ++ ys))], l ++ m, []⟩ := by
    intro A cap olds hv hlt hol hfirst hOl
    have hrun := run_append_grow_src (P := P) w t t o.type T i z hu hi hz A xs.length cap olds hfirst (a.eval y) ys.length news hsrc hlt (by omega)
     (growslice_fits hlt (by calc (xs.length + ys.length) * i.bytes <= 4294967296 * 32768 := Nat.mul_le_mul hbig hib
                  _ <= 140737488355328 := by decide))
    rw [<- hv] at hrun
    have hge := grownCap_ge w (xs.length + ys.length) cap T
    have hle2 := grownCap_le_maxLen w (xs.length + ys.length) cap T (by unfold maxLen; omega)
    generalize grownCap w (xs.length + ys.length) cap T = nc at hrun hge hle2
    have hkeep : ∀ k, k < w.heap.size -> (w.drew.alloc (.cells ((olds ++ news).toArray ++ Builtin.zeroCells z.cells (nc - (xs.length + ys.length))) T)).heap[k]? = w.heap[k]? := fun k hk => heap_alloc_old w.drew _ k hk
    have hsize : (w.drew.alloc (.cells ((olds ++ news).toArray ++ Builtin.zeroCells z.cells (nc - (xs.length + ys.length))) T)).heap.size = w.heap.size + 1 := by simp
    refine Qdv (F := fun b => b = w.heap.size ∨ ∃ id ∈ l ++ m, φ id b) h hdst hfree hd h5 (hexec hrun) rfl rfl rfl (fun b hb _ => hkeep b hb) (by omega) ?_ ?_ _
    ·rintro b (rfl | ⟨id, hid, hb⟩)
     ·exact ⟨.inr (Nat.le_refl _), by omega⟩
     ·exact ⟨.inl ⟨id, hid, hb⟩, by have := (h.lt id b hb).1; omega⟩
    ·refine .inr ⟨w.heap.size, nc, _, fun b => ∃ id ∈ l ++ m, φ id b, ?_, .inl rfl, ?_, fun b hb => .inr hb, heap_alloc_new w.drew _, by simp; omega, hle2, ?_, ?_⟩
     ·simp
     ·rintro ⟨id, _, hb⟩; have := (h.lt id _ hb).1; omega
     ·simp only [Array.size_append, List.size_toArray, List.length_append, size_zeroCells, hzl, hol, hnl]
      rw [<- Nat.add_mul, <- Nat.add_mul]; congr 1; omega
     ·have h1 := Qd9 (R' := fun x c G => Ow (w.drew.alloc (.cells ((olds ++ news).toArray ++ Builtin.zeroCells z.cells (nc - (xs.length + ys.length))) T)) e x c G)
       (fun x c G hG hx => Qbw (fun b hb => hkeep b (by obtain ⟨id, _, hb⟩ := hG b hb; exact (h.lt id b hb).1)) hx) hOl
      have h2 := hrow (w.drew.alloc (.cells ((olds ++ news).toArray ++ Builtin.zeroCells z.cells (nc - (xs.length + ys.length))) T)) (fun id _ b hb => hkeep b (h.lt id b hb).1)
      have h3 := Qg2 (F := fun b => ∃ id ∈ l ++ m, φ id b) h1 h2 hol (fun b ⟨i1, hi1, hb1⟩ ⟨i2, hi2, hb2⟩ => by
       have := h.dj i1 i2 b hb1 hb2; subst this
       exact hnd'.2.2 i1 hi1 i1 hi2 rfl) (fun b ⟨i1, hi1, hb1⟩ => ⟨i1, by simp [hi1], hb1⟩) (fun b ⟨i1, hi1, hb1⟩ => ⟨i1, by simp [hi1], hb1⟩)
      refine Qdg h3 (fun k hk => ?_)
      simp only [Array.toList_append]
      rw [List.getElem?_append_left]
      simp only [List.length_append, hol, hnl, <- Nat.add_mul]
      simpa using hk
   rcases hleft with ⟨rfl, rfl, A, hv⟩ | ⟨id, rfl, hob, hv⟩
   ·by_cases hy0 : ys = []
    ·subst hy0
     have hn0 : news = [] := List.eq_nil_of_length_eq_zero (by simpa using hnl)
     subst hn0
     have hrun := Qf4 (ty := o.type) hu hi (A := A) hsrc
     rw [<- hv] at hrun
     exact Qdv (F := fun b => ∃ id ∈ [] ++ m, φ id b) h hdst hfree hd h5 (hexec hrun) rfl rfl rfl (fun _ _ _ => rfl) (Nat.le_refl _)
      (fun b ⟨id, hid, hb⟩ => ⟨.inl ⟨id, hid, hb⟩, (h.lt id b hb).1⟩) (.inl ⟨rfl, A, by rw [hv]⟩) _
    ·have hpos : 0 < ys.length := List.length_pos_iff.2 hy0
     refine grow A 0 [] hv (by simp; omega) (by simp) ?_ trivial
     cases A with
     | none => exact run_firstCells_none w.drew _ _ _ _
     | some ad => simp [Builtin.firstCells, loadCells, loadCellsFrom]
   ·have hob' := h.ob id
    rw [hob] at hob'
    rcases hob' with ⟨rfl, A, hA'⟩ | ⟨b, cap, arr, F', hA', g1, g2, g3, g4, g5, g6, g7, g8⟩
    ·have hA' : ρ id = .slice A 0 0 := by simpa using hA'
     by_cases hy0 : ys = []
     ·subst hy0
      have hn0 : news = [] := List.eq_nil_of_length_eq_zero (by simpa using hnl)
      subst hn0
      have hrun := Qf4 (ty := o.type) hu hi (A := A) hsrc
      rw [<- hA', <- hv] at hrun
      exact Qdv (F := fun b => ∃ j ∈ [id] ++ m, φ j b) h hdst hfree hd h5 (hexec hrun) rfl rfl rfl (fun _ _ _ => rfl) (Nat.le_refl _)
       (fun b ⟨j, hj, hb⟩ => ⟨.inl ⟨j, hj, hb⟩, (h.lt j b hb).1⟩) (.inl ⟨rfl, A, by rw [hv, hA']⟩) _
     ·have hpos : 0 < ys.length := List.length_pos_iff.2 hy0
      refine grow A 0 [] (by rw [hv, hA']; rfl) (by simp; omega) (by simp) ?_ trivial
      cases A with
      | none => exact run_firstCells_none w.drew _ _ _ _
      | some ad => simp [Builtin.firstCells, loadCells, loadCellsFrom]
    ·have hA' : ρ id = .slice (some ⟨b, 0, none⟩) xs.length cap := by simpa using hA'
     obtain ⟨o1, o2⟩ := Qjl (Ow_R w e) g8
     by_cases hroom : xs.length + ys.length <= cap
     ·have hfit : xs.length * i.size + news.length <= arr.size := by
       rw [his, hnl, g7, <- Nat.add_mul]; exact Nat.mul_le_mul_right _ hroom
      have hrun := Qht (ty := o.type) (sLen := xs.length) (sCap := cap) hu hi g4 hsrc hroom hfit
      rw [<- hA', <- hv] at hrun
      rw [his] at hrun hfit
      have hkeep : ∀ k, k ≠ b -> (w.setRow b (patch arr.toList (xs.length * e.size) news).toArray).heap[k]? = w.heap[k]? := fun k hk => setRow_other w b k _ hk
      have hfit' : xs.length * e.size + news.length <= arr.toList.length := by simpa using hfit
      refine Qdv (F := fun c => ∃ j ∈ [id] ++ m, φ j c) h hdst hfree hd h5 (hexec hrun) rfl rfl rfl (fun k hk hn => hkeep k (fun e => hn id (by simp) (e ▸ g1))) (by simp) ?_ ?_ _
      ·rintro c ⟨j, hj, hb⟩
       exact ⟨.inl ⟨j, hj, hb⟩, by simpa using (h.lt j c hb).1⟩
      ·refine .inr ⟨b, cap, _, fun c => (F' c) ∨ ∃ j ∈ m, φ j c, by simp, ⟨id, by simp, g1⟩, ?_, ?_, setRow_heap w b _ _ T _ g4, by simpa using hroom, g6, ?_, ?_⟩
       ·rintro (hF | ⟨j, hj, hb⟩)
        ·exact g2 hF
        ·have := h.dj id j b g1 hb; subst this
         exact hnd'.2.2 id (by simp) id hj rfl
       ·rintro c (hF | ⟨j, hj, hb⟩)
        ·exact ⟨id, by simp, g3 c hF⟩
        ·exact ⟨j, by simp [hj], hb⟩
       ·simp only [List.size_toArray, Qer hfit', Array.length_toList, g7]
       ·have hne : ∀ c, (F' c ∨ ∃ j ∈ m, φ j c) -> c ≠ b := by
         rintro c (hF | ⟨j, hj, hb⟩) rfl
         ·exact g2 hF
         ·have := h.dj id j c g1 hb; subst this
          exact hnd'.2.2 id (by simp) id hj rfl
        have h1 := Qd9 (R' := fun x c G => Ow (w.setRow b (patch arr.toList (xs.length * e.size) news).toArray) e x c G)
         (fun x c G hG hx => Qbw (fun q hq => hkeep q (hne q (.inl (hG q hq)))) hx) g8
        have h2 := hrow (w.setRow b (patch arr.toList (xs.length * e.size) news).toArray) (fun j hj q hq => hkeep q (hne q (.inr ⟨j, hj, hq⟩)))
        have h1' := Qdg (cs' := arr.toList.take (xs.length * e.size)) h1 (fun k hk => by rw [List.getElem?_take, if_pos hk])
        have h3 := Qg2 (F := fun c => (F' c) ∨ ∃ j ∈ m, φ j c) h1' h2 (by rw [List.length_take]; omega) (fun q hq ⟨j, hj, hb⟩ => by
         have := h.dj id j q (g3 q hq) hb; subst this
         exact hnd'.2.2 id (by simp) id hj rfl) (fun q hq => .inl hq) (fun q hq => .inr hq)
        refine Qdg h3 (fun k hk => ?_)
        have : (patch arr.toList (xs.length * e.size) news).toArray.toList = (arr.toList.take (xs.length * e.size) ++ news) ++ arr.toList.drop (xs.length * e.size + news.length) := by simp [patch]
        rw [this, List.getElem?_append_left]
        rw [List.length_append, List.length_take, hnl]
        rw [List.length_append, Nat.add_mul] at hk
        omega
     ·refine grow _ cap (arr.toList.take (xs.length * e.size)) (by rw [hv, hA']) (by omega) (by rw [List.length_take]; omega) ?_ ?_
      ·rw [his]
       exact run_firstCells_some w.drew e.size xs.length _ _ _ _ (by rw [List.length_take]; omega) (fun j u hj => by
        rw [Qcz]
        have := Qbo (o := 0) (sz := xs.length * e.size) g4 j u (by simpa using hj)
        simpa using this)
      ·have := Qms (F' := fun c => ∃ j ∈ [id], φ j c) (fun c hc => ⟨id, by simp, g3 c hc⟩) g8
       exact Qdg this (fun k hk => by rw [List.getElem?_take, if_pos hk])
end
end Go.Vm

set_option linter.unusedVariables false
set_option linter.unusedSimpArgs false
namespace Go.Vm
section
variable {P : Program} {X : Ctx} {w : World} {st : Blks} {ρ : Nat -> Value} {φ : Nat -> Blks} {n : Nat} {a : Act} {s : St} {o : Oper} {hp : Nat -> Ob}
theorem Sim.compat {w' : World} (h : Sim w st ρ φ n a s) {id : Nat} (hid : s.hp id ≠ .none) {r' : Value} (hr : r' = ρ id)
  (hφ : ∀ b, φ id b -> w'.heap[b]? = w.heap[b]?) (nst : Bool) : Compat w w' (s.hp id) (s.hp id) (ρ id) r' nst := by
 refine ⟨hr, ?_, fun _ i p b o hp _ => ?_⟩
 ·revert hid; cases s.hp id <;> intro hid <;> first | exact absurd rfl hid | rfl | exact ⟨rfl, rfl, Nat.le_refl _⟩
 ·obtain ⟨T, el, xs, sh, l, c, h4, h5, h6, h7, _⟩ := hp
  have ho := h.ob id
  rcases h4 with h4 | h4 <;> rw [h4] at ho
  ·rcases ho with ⟨rfl, A, hA⟩ | ⟨b', cap, arr, F', hA, hF, _⟩
   ·simp at h7
   ·rw [h5] at hA; cases hA
    exact Qc1 (hφ _ hF)
  ·rcases ho with ⟨rfl, A, hA⟩ | ⟨b', cap, arr, hA, hF, _⟩
   ·simp at h7
   ·rw [h5] at hA; cases hA
    exact Qc1 (hφ _ hF)
theorem Qix {d : Nat} {T : TypeId} {S : Sh} {v : AV} {cs : List Value} (h : Sim w st ρ φ X.n a s) (hdst : o.dst = some d) (hfree : s.hp d = .none) (hd : dstOk X o.dst = true) (h5 : d % 10000 < 5000)
  (hrun : (execOp a.eval o).run P w = .ok (.value (.pointer (some ⟨w.heap.size, 0, none⟩))) (w.alloc (.cells cs.toArray T)))
  (hF : Fit s.hp S v) (hR : RC w st ρ s.hp v cs) (hl : ∀ id ∈ v.ids, s.hp id ≠ .none) (c : Bool) :
  Does P X o w st ρ φ a s ⟨c, .ptr d none [], [(d, .box S v)], [], []⟩ := by
 have hold : ∀ b, b < w.heap.size -> (w.alloc (.cells cs.toArray T)).heap[b]? = w.heap[b]? := fun b hb => heap_alloc_old w _ b hb
 have hsz : (w.alloc (.cells cs.toArray T)).heap.size = w.heap.size + 1 := by simp
 have hlne : ∀ id ∈ v.ids, id ≠ d := fun id hid e => hl id hid (e ▸ hfree)
 have hφd : ∀ b, ¬ φ d b := by have := h.ob d; rw [hfree] at this; exact this
 have hm : Sim (w.alloc (.cells cs.toArray T)) st (Go.Vm.upd ρ d (.pointer (some ⟨w.heap.size, 0, none⟩))) (fun id b => if id = d then b = w.heap.size else φ id b) X.n a ⟨s.env, updL s.hp [(d, .box S v)]⟩ := by
  refine h.upd (by simp) (fun _ h => h) (fun b hb => hold b (h.stlt b hb)) (fun id hid => ?_) (by simp) (fun q hq => ?_) (fun _ => true) (fun q hq hne => ?_) (by simp) (fun id b hb => ?_) (fun i j b h1 h2 => ?_)
   (fun b hb => by have := h.stlt b hb; omega) (fun q hq id hid => ?_)
  ·have hne : id ≠ d := by simpa using hid
   exact ⟨Qa5 _ _ hne, by funext b; simp [hne], fun b hb => hold b (h.lt id b hb).1⟩
  ·simp at hq; subst hq
   refine ⟨w.heap.size, cs.toArray, T, Qa0 _ _ _, by simp, heap_alloc_new w _, ?_, ?_⟩
   ·refine Qcg (fun id hid T e xs he => ⟨xs, ?_⟩) hF
    show IsArr (Go.Vm.upd s.hp d _ id) _ _ _
    rw [Qa5 _ _ (hlne id hid)]; exact he
   ·refine Qb6 (fun _ h => h) (fun b hb => hold b (h.stlt b hb)) (fun id hid => ?_) hR
    have e1 : updL s.hp [(d, .box S v)] id = s.hp id := Qa5 _ _ (hlne id hid)
    rw [e1]
    exact h.compat (hl id hid) (Qa5 _ _ (hlne id hid)) (fun b hb => hold b (h.lt id b hb).1) _
  ·simp at hq; subst hq; exact absurd hfree hne
  ·by_cases hid : id = d
   ·simp only [hid, if_true] at hb; subst hb
    exact ⟨by omega, fun hst => by have := h.stlt _ hst; omega⟩
   ·simp only [hid, if_false] at hb
    exact ⟨by have := (h.lt id b hb).1; omega, (h.lt id b hb).2⟩
  ·by_cases hi : i = d <;> by_cases hj : j = d
   ·rw [hi, hj]
   ·simp only [hi, if_true] at h1; simp only [hj, if_false] at h2
    have := (h.lt j b h2).1; omega
   ·simp only [hj, if_true] at h2; simp only [hi, if_false] at h1
    have := (h.lt i b h1).1; omega
   ·simp only [hi, hj, if_false] at h1 h2
    exact h.dj i j b h1 h2
  ·simp at hq; subst hq
   show Go.Vm.upd s.hp d _ id ≠ _
   rw [Qa5 _ _ (hlne id hid)]; exact hl id hid
 refine ⟨_, _, _, st, _, _, hrun, .inl rfl, hm.put o.dst _ (.ptr d none []) (fun q hq => ?_) ?_ ?_, ?_⟩
 ·rw [hq] at hd; simpa [dstOk, Nat.blt_eq] using hd
 ·refine Qa1 (av := .ptr d none []) ⟨w.heap.size, 0, ⟨S, S, .inl ⟨v, Qa0 _ _ _⟩, Qa0 _ _ _, Qbc _, (Qba S).symm⟩, rfl⟩ rfl rfl
 ·intro id hid
  simp [AV.ids] at hid; subst hid
  show Go.Vm.upd _ id _ id ≠ _; rw [Qa0]; simp
 ·refine ⟨rfl, rfl, rfl, by omega, fun b hb hn => hold b hb, fun _ h => h, fun _ h => .inl h, fun id b hb => ?_, fun id hp5 hn => ?_⟩
  ·by_cases hid : id = d
   ·simp only [hid, if_true] at hb; exact .inr (by omega)
   ·simp only [hid, if_false] at hb; exact .inl ⟨id, hb⟩
  ·have hne : id ≠ d := fun e => by rw [e] at hp5; omega
   have hn' : Go.Vm.upd s.hp d (.box S v) id ≠ .none := by
    have : (s.app o.dst ⟨c, .ptr d none [], [(d, .box S v)], [], []⟩).hp id = Go.Vm.upd s.hp d (.box S v) id := by rw [hdst]; rfl
    rw [<- this]; exact hn
   rw [Qa5 _ _ hne] at hn'
   exact ⟨hn', Qa5 _ _ hne⟩
theorem Qpe (hA : TyAll P X) {T : TypeId} (ho : o.op = .alloc T) (h : Sim w st ρ φ X.n a s) {d : Nat} (hdst : o.dst = some d) (hfree : s.hp d = .none) (hd : dstOk X o.dst = true) (h5 : d % 10000 < 5000)
  {S : Sh} {nf : Nat} (hT : X.ty T = some (S, nf)) : Does P X o w st ρ φ a s ⟨true, .ptr d none [], [(d, .box S (zeroAV S))], [], []⟩ := by
 obtain ⟨z, hz, hzr⟩ := (hA _ _ _ hT).zero
 obtain ⟨hF, hR⟩ := Qdt (w := w) (st := st) (ρ := ρ) (O := s.hp) S
 have hc := Qcu hz (Qdc hR)
 refine Qix (T := T) (cs := S.zc) h hdst hfree hd h5 ?_ hF hR (fun id hid => absurd hid (Qe2 S id)) _
 rw [<- hc]
 simp [execOp, ho, Instr.alloc, hzr, newVar, newRow]
theorem Qss (hA : TyAll P X) {T : TypeId} {x : Operand} (ho : o.op = .box T x) (h : Sim w st ρ φ X.n a s) (hle : Le hp s.hp) {d : Nat} (hdst : o.dst = some d) (hfree : s.hp d = .none) (hd : dstOk X o.dst = true) (h5 : d % 10000 < 5000)
  {S : Sh} (hfit : fits hp S (rho X s.env T x) = true) : Does P X o w st ρ φ a s ⟨true, .ptr d none [], [(d, .box S (rho X s.env T x))], [], []⟩ := by
 obtain ⟨hF, hnu⟩ := Qgz hle hfit
 obtain ⟨cs, hv, hR⟩ := Qdq hF hnu (Qap h T x)
 have hc := Qcu hv (Qdc hR)
 refine Qix (T := T) (cs := cs) h hdst hfree hd h5 ?_ hF hR (Qcd h T x) _
 rw [<- hc]
 simp [execOp, ho, Instr.box, newVar, newRow]
theorem Qpf {cs l : List Value} {o : Nat} {c : Value} (h : o < cs.length) : patch (cs.set o c) (o + 1) l = patch cs o (c :: l) := by
 unfold patch
 rw [List.set_eq_take_append_cons_drop, if_pos h]
 have h1 : (cs.take o ++ c :: cs.drop (o + 1)).take (o + 1) = cs.take o ++ [c] := by
  rw [List.take_append, List.take_of_length_le (by simp; omega), List.length_take, Nat.min_eq_left (by omega)]
  have : o + 1 - o = 1 := by omega
  rw [this]; rfl
 have h2 : (cs.take o ++ c :: cs.drop (o + 1)).drop (o + 1 + l.length) = cs.drop (o + (l.length + 1)) := by
  rw [List.drop_append, List.drop_of_length_le (by simp; omega), List.length_take, Nat.min_eq_left (by omega)]
  have : o + 1 + l.length - o = l.length + 1 := by omega
  rw [this, List.drop_succ_cons, List.drop_drop, List.nil_append]
  congr 1; omega
 rw [h1, h2]; simp
theorem Qka (off : Nat) : ∀ (l : List Value) (k : Nat) (cells : Array Value), off + k + l.length <= cells.size ->
  (l.zipIdx k).foldl (fun cs (x : Value × Nat) => cs.setIfInBounds (off + x.2) x.1) cells = (patch cells.toList (off + k) l).toArray
 | [], k, cells, h => by simp [patch]
 | c :: l, k, cells, h => by
  simp only [List.length_cons] at h
  rw [List.zipIdx_cons, List.foldl_cons, Qka off l (k + 1) _ (by simp; omega)]
  have : (cells.setIfInBounds (off + k) c).toList = cells.toList.set (off + k) c := by simp
  rw [this, <- Nat.add_assoc, Qpf (by simp; omega)]
theorem Qln {place : Nat -> Option (Nat × Nat)} {cells : Array Value} {i : Nat} {v : Value} {rest : List (Nat × Value)} {off sz : Nat} (hp : place i = some (off, sz)) (hv : v.cells.size = sz) (hf : off + sz <= cells.size) :
  Instr.fill place cells ((i, v) :: rest) = Instr.fill place (patch cells.toList off v.cells.toList).toArray rest := by
 have h1 : ¬ (cells.size < off + v.cells.size) := by omega
 simp only [Instr.fill, hp]
 rw [if_neg (by simp [hv]; omega)]
 congr 1
 rw [<- Array.foldl_toList]
 have := Qka off v.cells.toList 0 cells (by simp; omega)
 simp only [Nat.add_zero] at this
 rw [<- this]
 simp [Array.toList_zipIdx]
theorem Qiy (hle : Le hp s.hp) (h : Sim w st ρ φ X.n a s) {S : Sh} {nf : Nat} {place : Nat -> Option (Nat × Nat)} (hpl : ∀ j sh, j < nf -> S.sub (fp nf j) = some sh -> place j = some (S.off (fp nf j), sh.size)) :
  ∀ (ps : List (Nat × Operand)) (v v' : AV) (cs : List Value), buildAV hp S nf (ps.map fun q => (q.1, rho X s.env 0 q.2)) v = some v' -> Fit s.hp S v -> RC w st ρ s.hp v cs -> (∀ id ∈ v.ids, s.hp id ≠ .none) ->
   ∃ out, Instr.fill place cs.toArray (ps.map fun q => (q.1, a.eval q.2)) = some out /\ Fit s.hp S v' /\ RC w st ρ s.hp v' out.toList /\ (∀ id ∈ v'.ids, s.hp id ≠ .none)
 | [], v, v', cs, hb, hF, hR, hl => by
  cases hb; exact ⟨cs.toArray, rfl, hF, hR, hl⟩
 | (j, x) :: ps, v, v', cs, hb, hF, hR, hl => by
  simp only [List.map_cons, buildAV] at hb
  cases hsub : S.sub (fp nf j) with
  | none => rw [hsub] at hb; cases hb
  | some sh =>
   rw [hsub] at hb; simp only at hb
   cases hcond : (fits hp sh (rho X s.env 0 x) && Nat.blt j nf)
   ·rw [hcond] at hb; cases hb
   rw [hcond] at hb; simp only [cond_true] at hb
   simp only [Bool.and_eq_true, Nat.blt_eq] at hcond
   cases hset : setA v (fp nf j) (rho X s.env 0 x) with
   | none => rw [hset] at hb; cases hb
   | some u =>
    rw [hset] at hb; simp only at hb
    obtain ⟨hF1, hnu⟩ := Qgz hle hcond.1
    obtain ⟨cu, hv, hRu⟩ := Qdq hF1 hnu (Qap h 0 x)
    obtain ⟨hF2, hR2⟩ := Qfd hF hR hsub hF1 hRu hset
    have hcu := Qcu hv (Qdc hRu)
    have hlu := Qcc hF1 hRu
    have hlc := Qcc hF hR
    obtain ⟨out, g1, g2, g3, g4⟩ := Qiy hle h hpl ps u v' _ hb hF2 hR2 (fun id hid => by
     rcases Qfo hset hid with h1 | h1
     ·exact hl id h1
     ·exact Qcd h 0 x id h1)
    refine ⟨out, ?_, g2, g3, g4⟩
    rw [List.map_cons, Qln (hpl j sh hcond.2 hsub) (by rw [<- hlu, <- hcu]; simp) (by simp only [List.size_toArray]; rw [hlc]; exact Qbk hsub)]
    rw [hcu]; exact g1
theorem Qpg {fs : List Field} {f : Field -> Nat} (hf : ∀ x ∈ fs, (sizeOf x.type).run P w = .ok (f x) w) :
  (fs.mapM (m := Sem) fun x => do pure (x.offset, <- sizeOf x.type)).run P w = .ok (fs.map fun x => (x.offset, f x)) w := by
 induction fs with
 | nil => simp
 | cons x fs ih =>
  have ih := ih (fun y hy => hf y (by simp [hy]))
  simp only [Sem.run_bind, List.mapM_cons, hf x (by simp)] at ih ⊢
  simp at ih ⊢
  rw [ih]; rfl
theorem Qph (hA : TyAll P X) {T : TypeId} {parts : Array (Nat × Operand)} (ho : o.op = .build T parts) (h : Sim w st ρ φ X.n a s) (hd : dstOk X o.dst = true) (hle : Le hp s.hp) {S : Sh} {nf : Nat} (hT : X.ty T = some (S, nf)) {v : AV}
  (hb : buildAV hp S nf (parts.toList.map fun q => (q.1, rho X s.env 0 q.2)) (zeroAV S) = some v) (hpair : S.isPair = true) : Does P X o w st ρ φ a s (.pure v) := by
 have hTy := hA _ _ _ hT
 obtain ⟨z, hz, hzr⟩ := hTy.zero
 obtain ⟨hF, hR⟩ := Qdt (w := w) (st := st) (ρ := ρ) (O := s.hp) S
 have hc := Qcu hz (Qdc hR)
 obtain ⟨d, hu, hdd⟩ := hTy.und
 cases S with
 | pair p q =>
  obtain ⟨fs, rfl, ⟨h2, hfs⟩, hfl⟩ := hdd
  have hsz : ∀ x ∈ fs.toList, ∃ sh m, X.ty x.type = some (sh, m) := fun x hx => by
   obtain ⟨j, hj, e⟩ := List.getElem_of_mem hx
   obtain ⟨F, sub, m, g1, _, _, g4⟩ := hfl j (hfs ▸ (by simpa using hj))
   have : fs[j]? = some x := by rw [<- Array.getElem?_toList, List.getElem?_eq_getElem hj, e]
   rw [this] at g1; cases g1; exact ⟨_, _, g4⟩
  let f : Field -> Nat := fun x => match X.ty x.type with | some (sh, _) => sh.size | none => 0
  have hpl := Qpg (P := P) (w := w) (fs := fs.toList) (f := f) (fun x hx => by
   obtain ⟨sh, m, e⟩ := hsz x hx
   have := (hA _ _ _ e).size w
   simp only [f, e]; exact this)
  have hpl' : (fs.mapM (m := Sem) fun x => do pure (x.offset, <- sizeOf x.type)).run P w = .ok (fs.map fun x => (x.offset, f x)) w := by
   rw [Array.mapM_eq_mapM_toList]
   simp at hpl ⊢
   rw [hpl]
   have : (fs.toList.map fun x => (x.offset, f x)).toArray = fs.map fun x => (x.offset, f x) := by apply Array.ext'; simp
   simp [Result.andThen, this]
  obtain ⟨out, g1, g2, g3, g4⟩ := Qiy hle h (place := fun j => (fs.map fun x => (x.offset, f x))[j]?) (fun j sh hj hsub => by
    obtain ⟨F, sub, m, g1, g2, g3, g4⟩ := hfl j hj
    rw [hsub] at g2; cases g2
    simp [g1, g3, f, g4]) parts.toList _ _ _ hb hF hR (fun id hid => absurd hid (Qe2 _ id))
  refine Qad h hd (v := .agg out) ?_ (Qdp g2 g3 (.inl ⟨rfl, by simp⟩)) g4 _
  have hzc : z.cells = (Sh.zc (.pair p q)).toArray := by rw [<- hc]
  simp at hpl' g1
  simp [execOp, ho, Instr.build, hzr, hzc, run_underlying hu, hpl', g1]
 | _ => simp [Sh.isPair] at hpair
end
end Go.Vm

set_option linter.unusedVariables false
set_option linter.unusedSimpArgs false
namespace Go.Vm
section
variable {P : Program} {X : Ctx} {w : World} {st : Blks} {ρ : Nat -> Value} {φ : Nat -> Blks} {n : Nat} {a : Act} {s : St} {o : Oper} {hp : Nat -> Ob}
theorem Qet {O : Nat -> Ob} {S : Sh} {u : AV} {x : S.den} {D : List Nat} {v : Value} (ht : absorb hp S u = some (x, D)) (h : RV w st ρ O u v) : ∃ cs, VR S v cs /\ RC w st ρ O u cs := by
 cases u with
 | val t y =>
  obtain ⟨e, _⟩ := Qck ht
  subst e
  exact Qdq (S := t) (Qbb.2 rfl) (by simp) h
 | pair p q =>
  cases S with
  | pair a b =>
   rcases h with ⟨h, _⟩ | ⟨_, h⟩
   ·cases h
   ·rcases h with h | ⟨_, cs, e, h⟩ | ⟨h, _⟩
    ·cases h
    ·exact ⟨cs.toList, .inl ⟨rfl, by simp [e]⟩, h⟩
    ·cases h
  | _ => cases ht
 | nilv T e =>
  cases S with
  | sl T' e' => exact ⟨[v], .inr ⟨rfl, rfl⟩, Qao h rfl rfl (by simp)⟩
  | _ => cases ht
 | sref id ix p =>
  cases S with
  | sl T' e' => exact ⟨[v], .inr ⟨rfl, rfl⟩, Qao h rfl rfl (by simp)⟩
  | _ => simp [absorb] at ht
 | _ => cases S <;> cases ht
theorem Qmy {α : Type} {R : α -> List Value -> Blks -> Prop} {sz : Nat} : ∀ {xs : List α} {cs : List Value} {F : Blks}, (∀ i x, xs[i]? = some x -> R x ((cs.drop (i * sz)).take sz) (fun _ => False)) -> OwL R sz xs cs F
 | [], _, _, _ => trivial
 | x :: xs, cs, F, h => by
  refine ⟨fun _ => False, F, fun _ h _ => h, fun _ h => h.elim, fun _ h => h, by simpa using h 0 x rfl, Qmy (fun i y hy => ?_)⟩
  have := h (i + 1) y (by simpa using hy)
  rw [List.drop_drop]
  rwa [show sz + i * sz = (i + 1) * sz by rw [Nat.add_mul]; omega]
theorem Qmz {z : Array Value} {sz n i : Nat} (hz : z.size = sz) (hi : i < n) : ((madeCells z (n * sz)).toList.drop (i * sz)).take sz = z.toList := by
 apply List.ext_getElem?
 intro j
 rw [List.getElem?_take, List.getElem?_drop]
 by_cases hj : j < sz
 ·have h1 : i * sz + j < n * sz := by
   have : (i + 1) * sz <= n * sz := Nat.mul_le_mul_right _ hi
   rw [Nat.add_mul] at this; omega
  have h2 : (i * sz + j) % sz = j := by rw [Nat.mul_comm, Nat.mul_add_mod]; exact Nat.mod_eq_of_lt hj
  have h3 : j < z.size := by omega
  rw [if_pos hj, Array.getElem?_toList]
  simp [madeCells, h1, hz, h2]
  rw [getElem!_pos z j h3]; simp [h3]
 ·rw [if_neg hj, List.getElem?_eq_none (by simp; omega)]
theorem zcells {S : Sh} {z : Value} (hz : VR S z S.zc) : z.cells = S.zc.toArray /\ z.cells.size = S.size := by
 have := Qcu hz (Qc2 (w := default) (Qfe S (fun _ => False)))
 have e : z.cells = S.zc.toArray := by rw [<- this]
 exact ⟨e, by rw [e]; simp [Qj5]⟩
theorem Qmo {α : Type} {n i : Nat} {x y : α} (h : (List.replicate n x)[i]? = some y) : i < n /\ y = x := by
 rw [List.getElem?_replicate] at h
 split at h
 ·exact ⟨‹_›, by simpa using h.symm⟩
 ·cases h
theorem Qk6 (hA : TyAll P X) {T : TypeId} {x y : Operand} (ho : o.op = .makeSlice T x y) (h : Sim w st ρ φ X.n a s) {d : Nat} (hdst : o.dst = some d) (hfree : s.hp d = .none) (hd : dstOk X o.dst = true) (h5 : d % 10000 < 5000)
  {E : TypeId} {e : Sh} {nf : Nat} (hT : X.ty T = some (.sl E e, nf)) {k k' : IntKind} {i m : Int} (hx : rho X s.env 0 x = .val (.int k) i) (hy : rho X s.env 0 y = .val (.int k') m) (h0 : 0 <= i) (h1 : i <= 4294967296) (hm : m = i) (c : Bool) :
  Does P X o w st ρ φ a s ⟨c, .sref d none [], [(d, .arr E e (List.replicate i.toNat e.zero))], [], []⟩ := by
 subst hm
 have vx := Qci (hx ▸ Qap h 0 x)
 have vy := Qci (hy ▸ Qap h 0 y)
 obtain ⟨dd, hu, rfl, m0, hE⟩ := (hA _ _ _ hT).und
 have hEt := hA _ _ _ hE
 obtain ⟨inf, hi, his, hib, z, hz, hzc⟩ := hEt.info
 obtain ⟨hz1, hz2⟩ := zcells hzc
 have hb : (inf.bytes : Int) * m <= 281474976710656 := by
  have h2 : inf.bytes * m.toNat <= 32768 * 4294967296 := Nat.mul_le_mul hib (by omega)
  have h3 : ((inf.bytes * m.toNat : Nat) : Int) = (inf.bytes : Int) * m := by rw [Int.natCast_mul, Int.toNat_of_nonneg h0]
  rw [<- h3]
  have : (32768 * 4294967296 : Nat) <= 281474976710656 := by decide
  omega
 have hrun := run_make (P := P) w T E inf z hu hi hz k k' m m h0 (Int.le_refl _) hb (by omega)
 have hkeep : ∀ b, b < w.heap.size -> (w.alloc (.cells (madeCells z.cells (m.toNat * inf.size)) E)).heap[b]? = w.heap[b]? := fun b hb => heap_alloc_old w _ b hb
 have hex : (execOp a.eval o).run P w = .ok (.value (.slice (some ⟨w.heap.size, 0, none⟩) m.toNat m.toNat)) (w.alloc (.cells (madeCells z.cells (m.toNat * inf.size)) E)) := by simp [execOp, ho, vx, vy, hrun]
 refine Qdv (D := []) (F := fun b => b = w.heap.size) h hdst hfree hd h5 hex rfl rfl rfl (fun b hb _ => hkeep b hb) (by simp) ?_ ?_ _
 ·rintro b rfl; exact ⟨.inr (Nat.le_refl _), by simp⟩
 ·refine .inr ⟨w.heap.size, m.toNat, _, fun _ => False, by simp, rfl, fun h => h, fun _ h => h.elim, heap_alloc_new w _, by simp, by unfold maxLen; omega, by rw [size_madeCells, his], ?_⟩
  refine Qmy (fun i x hx => ?_)
  obtain ⟨hi, rfl⟩ := Qmo hx
  rw [his, Qmz hz2 hi, hz1]
  exact Qfe e _
theorem Qqw {cs cu : List Value} {o l k : Nat} (h : o + cu.length <= cs.length) (hk : k + l <= o ∨ o + cu.length <= k) : ((patch cs o cu).drop k).take l = (cs.drop k).take l :=
 Qj2 fun j h1 h2 => Qes h (by omega)
theorem Qhz {sz i j : Nat} (h : i ≠ j) : i * sz + sz <= j * sz ∨ j * sz + sz <= i * sz := by
 rcases Nat.lt_or_gt_of_ne h with h | h
 ·left; have : (i + 1) * sz <= j * sz := Nat.mul_le_mul_right _ h
  rw [Nat.add_mul] at this; omega
 ·right; have : (j + 1) * sz <= i * sz := Nat.mul_le_mul_right _ h
  rw [Nat.add_mul] at this; omega
theorem Qm0 {sz n : Nat} (g : Operand -> Value) : ∀ (ps : List (Nat × Operand)) (cells : Array Value), (∀ q ∈ ps, q.1 < n /\ (g q.2).cells.size = sz) -> (ps.map (·.1)).Nodup -> cells.size = n * sz ->
  ∃ out, Instr.fill (fun i => some (i * sz, sz)) cells (ps.map fun q => (q.1, g q.2)) = some out /\ out.size = n * sz /\
   ∀ j, j < n -> (out.toList.drop (j * sz)).take sz = (match ps.find? (fun q => Nat.beq q.1 j) with | some q => (g q.2).cells.toList | none => (cells.toList.drop (j * sz)).take sz)
 | [], cells, _, _, hs => ⟨cells, rfl, hs, fun j hj => rfl⟩
 | (i, x) :: ps, cells, hq, hn, hs => by
  obtain ⟨h1, h2⟩ := hq (i, x) (by simp)
  simp only [List.map_cons, List.nodup_cons] at hn
  have hfit : i * sz + sz <= cells.size := by
   rw [hs]; have : (i + 1) * sz <= n * sz := Nat.mul_le_mul_right _ h1
   rw [Nat.add_mul] at this; omega
  have hl : (g x).cells.toList.length = sz := by simpa using h2
  have hfit' : i * sz + (g x).cells.toList.length <= cells.toList.length := by simp [h2]; omega
  have hpl : (patch cells.toList (i * sz) (g x).cells.toList).length = cells.toList.length := Qer hfit'
  obtain ⟨out, g1, g2, g3⟩ := Qm0 g ps (patch cells.toList (i * sz) (g x).cells.toList).toArray (fun q hq' => hq q (by simp [hq'])) hn.2 (by rw [List.size_toArray, hpl]; simpa using hs)
  refine ⟨out, ?_, g2, fun j hj => ?_⟩
  ·rw [List.map_cons, Qln rfl h2 hfit]; exact g1
  ·rw [g3 j hj, List.find?_cons]
   by_cases hij : i = j
   ·subst hij
    have : (Nat.beq i i) = true := Nat.beq_eq ▸ rfl
    rw [this]
    have hno : ps.find? (fun q => Nat.beq q.1 i) = none := by
     rw [List.find?_eq_none]
     intro q hq' e
     exact hn.1 (List.mem_map.2 ⟨q, hq', Nat.eq_of_beq_eq_true e⟩)
    rw [hno]
    simp only
    have := Qjm (cs := cells.toList) (cu := (g x).cells.toList) (o := i * sz) hfit'
    rw [hl] at this; exact this
   ·have : (Nat.beq i j) = false := by
     rw [Bool.eq_false_iff]; intro e; exact hij (Nat.eq_of_beq_eq_true e)
    rw [this]
    cases ps.find? (fun q => Nat.beq q.1 j) with
    | some q => rfl
    | none =>
     simp only
     rw [Qqw hfit']
     rw [hl]
     have := Qhz (sz := sz) hij
     omega
theorem Qm1 {α : Type} {f : AV -> Option (α × List Nat)} {z : α} {parts : List (Nat × AV)} : ∀ {n i : Nat} {xs : List α} {l : List Nat}, litL f z parts n i = some (xs, l) -> l.Nodup -> xs.length = n /\
  ∀ {R : α -> List Value -> Blks -> Prop} {sz : Nat} {cs : List Value}, (∀ x c F F', (∀ b, F b -> F' b) -> R x c F -> R x c F') -> (∀ id id' b, φ id b -> φ id' b -> id = id') ->
   (∀ j x m, i <= j -> j < i + n -> litPart f z parts j = some (x, m) -> m.Nodup -> R x ((cs.drop ((j - i) * sz)).take sz) (fun b => ∃ id ∈ m, φ id b)) ->
   OwL R sz xs cs (fun b => ∃ id ∈ l, φ id b)
 | 0, i, xs, l, h, _ => by cases h; exact ⟨rfl, fun _ _ _ => trivial⟩
 | n + 1, i, xs, l, h, hnd => by
  simp only [litL] at h
  cases hh : litPart f z parts i with
  | none => rw [hh] at h; cases h
  | some p =>
   obtain ⟨x, l1⟩ := p
   rw [hh] at h; simp only at h
   cases ht : litL f z parts n (i + 1) with
   | none => rw [ht] at h; cases h
   | some q =>
    obtain ⟨ys, l2⟩ := q
    rw [ht] at h; simp only [Option.some.injEq, Prod.mk.injEq] at h
    obtain ⟨rfl, rfl⟩ := h
    have hnd' := List.nodup_append.1 hnd
    obtain ⟨ih1, ih2⟩ := Qm1 ht hnd'.2.1
    refine ⟨by simp [ih1], fun {R sz cs} hup hdj hp => ?_⟩
    refine ⟨fun b => ∃ id ∈ l1, φ id b, fun b => ∃ id ∈ l2, φ id b, ?_, fun b ⟨id, hid, hb⟩ => ⟨id, by simp [hid], hb⟩, fun b ⟨id, hid, hb⟩ => ⟨id, by simp [hid], hb⟩, ?_, ?_⟩
    ·rintro b ⟨id, hid, hb⟩ ⟨id', hid', hb'⟩
     have := hdj id id' b hb hb'; subst this
     exact hnd'.2.2 id hid id hid' rfl
    ·have := hp i x l1 (Nat.le_refl _) (by omega) hh hnd'.1
     simpa using this
    ·refine ih2 hup hdj (fun j y m h1 h2 h3 h4 => ?_)
     have := hp j y m (by omega) (by omega) h3 h4
     rw [List.drop_drop]
     rwa [show sz + (j - (i + 1)) * sz = (j - i) * sz by
      rw [show j - i = (j - (i + 1)) + 1 by omega, Nat.add_mul]; omega]
end
end Go.Vm

set_option linter.unusedVariables false
set_option linter.unusedSimpArgs false
namespace Go.Vm
section
variable {P : Program} {X : Ctx} {w : World} {st : Blks} {ρ : Nat -> Value} {φ : Nat -> Blks} {n : Nat} {a : Act} {s : St} {o : Oper} {hp : Nat -> Ob}
theorem Qh0 {α : Type} {f : AV -> Option (α × List Nat)} {z : α} {parts : List (Nat × AV)} : ∀ {n i : Nat} {xs : List α} {l : List Nat}, litL f z parts n i = some (xs, l) ->
  xs.length = n /\ ∀ j, i <= j -> j < i + n -> ∃ x m, litPart f z parts j = some (x, m) /\ xs[j - i]? = some x
 | 0, i, xs, l, h => by cases h; exact ⟨rfl, fun j h1 h2 => by omega⟩
 | n + 1, i, xs, l, h => by
  simp only [litL] at h
  cases hh : litPart f z parts i with
  | none => rw [hh] at h; cases h
  | some p =>
   obtain ⟨x, l1⟩ := p
   rw [hh] at h; simp only at h
   cases ht : litL f z parts n (i + 1) with
   | none => rw [ht] at h; cases h
   | some q =>
    obtain ⟨ys, l2⟩ := q
    rw [ht] at h; simp only [Option.some.injEq, Prod.mk.injEq] at h
    obtain ⟨rfl, rfl⟩ := h
    obtain ⟨ih1, ih2⟩ := Qh0 ht
    refine ⟨by simp [ih1], fun j h1 h2 => ?_⟩
    by_cases hj : j = i
    ·subst hj; exact ⟨x, l1, hh, by simp⟩
    ·obtain ⟨y, m, g1, g2⟩ := ih2 j (by omega) (by omega)
     refine ⟨y, m, g1, ?_⟩
     rw [show j - i = (j - (i + 1)) + 1 by omega]; simpa using g2
theorem Qm2 {β : Type} : ∀ {ps : List (Nat × β)} {q : Nat × β}, (ps.map (·.1)).Nodup -> q ∈ ps -> ps.find? (fun p => Nat.beq p.1 q.1) = some q
 | p :: ps, q, hn, hq => by
  simp only [List.map_cons, List.nodup_cons] at hn
  rw [List.find?_cons]
  by_cases hpq : p.1 = q.1
  ·have e : Nat.beq p.1 q.1 = true := by rw [hpq]; exact Nat.beq_eq ▸ rfl
   rw [e]
   rcases List.mem_cons.1 hq with rfl | hq
   ·rfl
   ·exact absurd (List.mem_map.2 ⟨q, hq, hpq.symm⟩) hn.1
  ·have e : Nat.beq p.1 q.1 = false := by rw [Bool.eq_false_iff]; intro e; exact hpq (Nat.eq_of_beq_eq_true e)
   rw [e]
   rcases List.mem_cons.1 hq with rfl | hq
   ·exact absurd rfl hpq
   ·exact Qm2 hn.2 hq
theorem Qkb {v : AV} : ∀ {S : Sh} {x : S.den} {D : List Nat} {cs : List Value} {O : Nat -> Ob}, absorb hp S v = some (x, D) -> RC w st ρ O v cs -> cs.length = S.size := by
 induction v with
 | val t y =>
  intro S x D cs O h hr
  obtain ⟨e, _⟩ := Qck h
  subst e; exact Qbn hr
 | pair u v ihu ihv =>
  intro S x D cs O h hr
  cases S with
  | pair p q =>
   obtain ⟨y, z, l, m, h1, h2, _⟩ := Qc3 h
   obtain ⟨c1, c2, rfl, g1, g2⟩ := hr
   rw [List.length_append, ihu h1 g1, ihv h2 g2]; rfl
  | _ => simp [absorb] at h
 | nilv T e =>
  intro S x D cs O h hr
  cases S with
  | sl T' e' => obtain ⟨A, rfl⟩ := hr; rfl
  | _ => simp [absorb] at h
 | sref id ix p =>
  intro S x D cs O h hr
  cases S with
  | sl T' e' =>
   obtain ⟨rfl, rfl, _, _⟩ := Qcp h
   obtain ⟨_, _, rfl, _⟩ := hr; rfl
  | _ => simp [absorb] at h
 | _ => intro S x D cs O h hr; cases S <;> simp [absorb] at h
theorem Qk7 : ∀ (S : Sh), Im w st S S.zero S.zc
 | .int _ => rfl
 | .bool => rfl
 | .str => rfl
 | .sl _ _ => ⟨none, 0, rfl, Nat.le_refl _, fun h => absurd rfl h⟩
 | .pair a b => ⟨_, _, rfl, Qk7 a, Qk7 b⟩
 | .unit => rfl
theorem Qot (hA : TyAll P X) {T E : TypeId} {e : Sh} {nf : Nat} (hT : X.ty T = some (.sl E e, nf)) {α : Type} {f : AV -> Option (α × List Nat)} {z : α} {ps : List (Nat × Operand)} {n : Nat} {xs : List α} {l : List Nat} (r : Operand -> AV) (g : Operand -> Value)
  (hk : ∀ q ∈ ps, q.1 < n) (hnd : (ps.map (·.1)).Nodup) (hlim : n * e.size <= 16777216) (hl : litL f z (ps.map fun q => (q.1, r q.2)) n 0 = some (xs, l)) {R : α -> List Value -> List Nat -> Prop} (hz : R z e.zc [])
  (hf : ∀ x y m, f (r x) = some (y, m) -> (g x).cells.size = e.size /\ R y (g x).cells.toList m) :
  ∃ out : Array Value, (Instr.buildSlice T n (ps.map fun q => (q.1, g q.2)).toArray).run P w = .ok (.slice (some ⟨w.heap.size, 0, none⟩) n n) (w.alloc (.cells out E)) /\ out.size = n * e.size /\
   ∀ j x m, j < n -> litPart f z (ps.map fun q => (q.1, r q.2)) j = some (x, m) -> R x ((out.toList.drop (j * e.size)).take e.size) m := by
 obtain ⟨dd, hu, rfl, m0, hE⟩ := (hA _ _ _ hT).und
 have hEt := hA _ _ _ hE
 obtain ⟨inf, hi, his, hib, zv, hzv, hzc⟩ := hEt.info
 obtain ⟨hz1, hz2⟩ := zcells hzc
 obtain ⟨_, hparts⟩ := Qh0 hl
 have hpart : ∀ q ∈ ps, ∃ y m, f (r q.2) = some (y, m) := fun q hq => by
  obtain ⟨x, m, g1, _⟩ := hparts q.1 (Nat.zero_le _) (by have := hk q hq; omega)
  unfold litPart at g1
  rw [List.find?_map] at g1
  have hfind : ps.find? ((fun q' : Nat × AV => Nat.beq q'.1 q.1) ∘ fun q => (q.1, r q.2)) = some q := Qm2 hnd hq
  rw [hfind] at g1
  exact ⟨x, m, g1⟩
 obtain ⟨out, g1, g2, g3⟩ := Qm0 (sz := e.size) (n := n) g ps (madeCells zv.cells (n * e.size)) (fun q hq => by
  obtain ⟨y, m, hy⟩ := hpart q hq
  exact ⟨hk q hq, (hf _ _ _ hy).1⟩) hnd (size_madeCells _ _)
 refine ⟨out, ?_, g2, fun j x m hj hp => ?_⟩
 ·have hlim' : ¬ (16777216 < n * e.size) := by omega
  by_cases hn : n * e.size = 0
  ·have e0' : madeCells zv.cells (n * e.size) = #[] := Array.eq_empty_of_size_eq_zero (by rw [size_madeCells]; exact hn)
   rw [e0'] at g1
   simp [Instr.buildSlice, run_underlying hu, sizeOf, typeInfo, hi, his, hn, newRow, Array.range_zero', g1]
  ·unfold madeCells at g1
   simp [Instr.buildSlice, run_underlying hu, sizeOf, typeInfo, hi, his, hn, hlim', newRow, zeroValue, hzv, g1]
 ·rw [g3 j hj]
  unfold litPart at hp
  rw [List.find?_map] at hp
  have hcomp : ps.find? ((fun q' : Nat × AV => Nat.beq q'.1 j) ∘ fun q => (q.1, r q.2)) = ps.find? (fun q => Nat.beq q.1 j) := rfl
  rw [hcomp] at hp
  cases hq : ps.find? (fun q => Nat.beq q.1 j) with
  | none =>
   rw [hq] at hp; simp at hp
   obtain ⟨rfl, rfl⟩ := hp
   rw [Qmz hz2 hj, hz1]
   simpa using hz
  | some q =>
   rw [hq] at hp; simp at hp
   simp only
   exact (hf _ _ _ hp).2
theorem Qkc (hA : TyAll P X) {T : TypeId} {n : Nat} {parts : Array (Nat × Operand)} (ho : o.op = .buildSlice T n parts) (h : Sim w st ρ φ X.n a s) (hle : Le hp s.hp) {d : Nat} (hdst : o.dst = some d) (hd : dstOk X o.dst = true)
  {E : TypeId} {e : Sh} {nf : Nat} (hT : X.ty T = some (.sl E e, nf)) {r : Res} (hfree : ∀ ob, r.up = [(d, ob)] -> (hp d).isNone = true -> s.hp d = .none /\ d % 10000 < 5000) (hr : buildSliceAV hp d E e n (parts.toList.map fun q => (q.1, rho X s.env 0 q.2)) = some r) : Does P X o w st ρ φ a s r := by
 unfold buildSliceAV at hr
 cases hps : partsSeq (parts.toList.map fun q => (q.1, rho X s.env 0 q.2)) n e.size
 ·rw [hps] at hr; cases hr
 rw [hps] at hr; simp only [cond_true] at hr
 simp only [partsSeq, Bool.and_eq_true, List.all_eq_true, Qb1, Nat.ble_eq, Nat.blt_eq] at hps
 obtain ⟨⟨hk, hnd⟩, hlim⟩ := hps
 have hk' : ∀ q ∈ parts.toList, q.1 < n := fun q hq => hk _ (List.mem_map.2 ⟨q, hq, rfl⟩)
 have hnd' : (parts.toList.map (·.1)).Nodup := by rw [List.map_map] at hnd; exact hnd
 have hexec : ∀ {r w'}, (Instr.buildSlice T n (parts.toList.map fun q => (q.1, a.eval q.2)).toArray).run P w = .ok r w' -> (execOp a.eval o).run P w = .ok (.value r) w' := fun hrun => by
  have e1 : (parts.map fun x => match x with | (i, x) => (i, a.eval x)) = (parts.toList.map fun q => (q.1, a.eval q.2)).toArray := by
   apply Array.ext'; rw [Array.toList_map]
  simp only [execOp, ho]
  rw [e1]
  simp [hrun]
 cases hl : litL (fun v => absorb hp e v) e.zero (parts.toList.map fun q => (q.1, rho X s.env 0 q.2)) n 0 with
 | some p =>
  obtain ⟨xs, l⟩ := p
  rw [hl] at hr; simp only at hr
  cases hc : (nodup l && (hp d).isNone)
  ·rw [hc] at hr; cases hr
  rw [hc] at hr; simp only [cond_true, Option.some.injEq] at hr
  subst hr
  simp only [Bool.and_eq_true, Qb1] at hc
  obtain ⟨hf1, hf2⟩ := hfree _ rfl hc.2
  obtain ⟨hlen, hown⟩ := Qm1 (φ := φ) hl hc.1
  obtain ⟨out, g1, g2, g3⟩ := Qot (w := w) hA hT (rho X s.env 0) a.eval hk' hnd' hlim hl (R := fun x c m => m.Nodup -> Ow w e x c (fun b => ∃ id ∈ m, φ id b)) (fun _ => Qfe e _) (fun x y m hf => by
   obtain ⟨cs, hv, hrc⟩ := Qet hf (Qap h 0 x)
   have hcs := Qcu hv (Qdc hrc)
   refine ⟨?_, fun hm => by rw [hcs]; exact Qcl h hle hf hm hrc⟩
   have : cs.length = e.size := by
    -- the length
    cases hm : nodup m
    ·exact Qkb hf hrc
    ·exact Qb9 (Qcl h hle hf (Qb1.1 hm) hrc)
   rw [<- this, <- hcs]; simp)
  have hkeep : ∀ b, b < w.heap.size -> (w.alloc (.cells out E)).heap[b]? = w.heap[b]? := fun b hb => heap_alloc_old w _ b hb
  refine Qdv (D := l) (F := fun b => b = w.heap.size ∨ ∃ id ∈ l, φ id b) h hdst hf1 hd hf2 (hexec g1) rfl rfl rfl (fun b hb _ => hkeep b hb) (by simp) ?_ ?_ _
  ·rintro b (rfl | ⟨id, hid, hb⟩)
   ·exact ⟨.inr (Nat.le_refl _), by simp⟩
   ·exact ⟨.inl ⟨id, hid, hb⟩, by have := (h.lt id b hb).1; simp; omega⟩
  ·refine .inr ⟨w.heap.size, n, out, fun b => ∃ id ∈ l, φ id b, by rw [hlen], .inl rfl, ?_, fun b hb => .inr hb, heap_alloc_new w _, by omega, ?_, g2, ?_⟩
   ·rintro ⟨id, _, hb⟩; have := (h.lt id _ hb).1; omega
   ·have hpos := (hA _ _ _ hT).und
    obtain ⟨_, _, rfl, m0, hE⟩ := hpos
    have h1 := (hA _ _ _ hE).pos
    have : n * 1 <= n * e.size := Nat.mul_le_mul_left _ h1
    unfold maxLen; omega
   ·refine hown (R := fun x c F => Ow (w.alloc (.cells out E)) e x c F) (fun x c F F' hF hx => Ow_up hF hx) h.dj (fun j x m h1 h2 h3 h4 => ?_)
    have := g3 j x m (by omega) h3 h4
    rw [Nat.sub_zero]
    exact Qbw (fun b ⟨id, _, hb⟩ => hkeep b (h.lt id b hb).1) this
 | none =>
  rw [hl] at hr; simp only at hr
  cases hl2 : litL (immF hp e) e.zero (parts.toList.map fun q => (q.1, rho X s.env 0 q.2)) n 0 with
  | none => rw [hl2] at hr; cases hr
  | some p =>
   obtain ⟨xs, l⟩ := p
   rw [hl2] at hr; simp only [Option.some.injEq] at hr
   subst hr
   obtain ⟨hlen, hpt⟩ := Qh0 hl2
   obtain ⟨out, g1, g2, g3⟩ := Qot (w := w) hA hT (rho X s.env 0) a.eval hk' hnd' hlim hl2 (R := fun x c m => Im w st e x c) (Qk7 e) (fun x y m hf => by
    have hf' : (rho X s.env 0 x).ids = [] /\ toVal hp e (rho X s.env 0 x) = some y := by
     unfold immF at hf
     split at hf
     ·rename_i hid
      split at hf
      ·rename_i z hz; cases hf; exact ⟨hid, hz⟩
      ·cases hf
     ·cases hf
    obtain ⟨cs, hv, hrc⟩ := Qeb hf'.2 (Qap h 0 x)
    have hcs := Qcu hv (Qdc hrc)
    have him := Im_up (st' := st) (fun b hb => by
     rcases hb with hb | ⟨id, hid, _⟩
     ·exact hb
     ·rw [hf'.1] at hid; cases hid) (Qcv h hle hf'.2 hrc)
    refine ⟨?_, by rw [hcs]; exact him⟩
    rw [<- Qbn him, <- hcs]; simp)
   have hkeep : ∀ b, b < w.heap.size -> (w.alloc (.cells out E)).heap[b]? = w.heap[b]? := fun b hb => heap_alloc_old w _ b hb
   have hsim := Sim.upd (up := []) (w' := w.alloc (.cells out E)) (st' := fun b => st b ∨ b = w.heap.size) (ρ' := ρ) (φ' := φ) h List.nodup_nil (fun _ h => .inl h) (fun b hb => hkeep b (h.stlt b hb)) (fun id _ => ⟨rfl, rfl, fun b hb => hkeep b (h.lt id b hb).1⟩)
    (by simp) (by simp) (fun _ => true) (by simp) (by simp) (fun id b hb => ⟨by have := (h.lt id b hb).1; simp; omega, fun hst => by
     rcases hst with hst | rfl
     ·exact (h.lt id b hb).2 hst
     ·have := (h.lt id _ hb).1; omega⟩) h.dj
    (fun b hb => by
     rcases hb with hb | rfl
     ·have := h.stlt b hb; simp; omega
     ·simp) (by simp)
   refine ⟨_, _, _, _, _, _, hexec g1, .inl rfl, hsim.put o.dst _ (.val (.sl E e) xs) (fun q hq => ?_) ?_ (by simp [AV.ids]), ?_⟩
   ·rw [hq] at hd; simpa [dstOk, Nat.blt_eq] using hd
   ·refine Qc5 (S := .sl E e) (cs := [.slice (some ⟨w.heap.size, 0, none⟩) n n]) ⟨_, n, by rw [hlen], by omega, fun _ => ⟨w.heap.size, 0, rfl, .inr rfl, fun i x hx => ?_⟩⟩ (.inr ⟨rfl, rfl⟩)
    have hi : i < n := by
     have := (List.getElem?_eq_some_iff.1 hx).1; omega
    obtain ⟨y, m, q1, q2⟩ := hpt i (Nat.zero_le _) (by omega)
    rw [Nat.sub_zero, hx] at q2; cases q2
    refine ⟨_, Qb8 (fun _ h => .inl h) (fun b hb => hkeep b (h.stlt b hb)) (g3 i x m hi q1), fun j v hv => ?_⟩
    have := Qbo (heap_alloc_new w (.cells out E)) (o := i * e.size) (sz := e.size) j v hv
    rw [<- this]; congr 2; omega
   ·exact ⟨rfl, rfl, rfl, by simp, fun b hb _ => hkeep b hb, fun _ h => .inl h, fun b hb => hb.elim .inl (fun e => .inr (.inr (by omega))), fun id b hb => .inl ⟨id, hb⟩, fun id _ hn => ⟨by
     have : (s.app o.dst (Res.pure (.val (.sl E e) xs))).hp id = s.hp id := by cases o.dst <;> rfl
     rw [this] at hn; exact hn, rfl⟩⟩
end
end Go.Vm

set_option linter.unusedVariables false
set_option linter.unusedSimpArgs false
namespace Go.Vm
theorem Qjn : ∀ {S : Sh} {p : List Bool} {s : Sh}, S.flat = true -> S.sub p = some s -> s.flat = true
 | S, [], s, hp, h => by rw [Qbc] at h; cases h; exact hp
 | .pair a b, false :: p, s, hp, h => by
  simp only [Sh.flat, Bool.and_eq_true] at hp
  exact Qjn hp.1 (by simpa [Sh.sub] using h)
 | .pair a b, true :: p, s, hp, h => by
  simp only [Sh.flat, Bool.and_eq_true] at hp
  exact Qjn hp.2 (by simpa [Sh.sub] using h)
 | .int _, _ :: _, _, _, h => by simp [Sh.sub] at h
 | .bool, _ :: _, _, _, h => by simp [Sh.sub] at h
 | .str, _ :: _, _, _, h => by simp [Sh.sub] at h
 | .sl _ _, _ :: _, _, _, h => by simp [Sh.sub] at h
 | .unit, _ :: _, _, _, h => by simp [Sh.sub] at h
theorem Qh1 : ∀ {S : Sh} {p q : List Bool} {s : Sh} {T : TypeId} {e : Sh}, S.sub p = some s -> s.flat = true -> S.sub q = some (.sl T e) -> S.off q < S.off p ∨ S.off p + s.size <= S.off q
 | S, [], q, s, T, e, h1, h2, h3 => by
  rw [Qbc] at h1; cases h1
  have := Qjn h2 h3
  simp [Sh.flat] at this
 | .pair a b, false :: p, [], s, T, e, h1, h2, h3 => by simp [Sh.sub] at h3
 | .pair a b, true :: p, [], s, T, e, h1, h2, h3 => by simp [Sh.sub] at h3
 | .pair a b, false :: p, false :: q, s, T, e, h1, h2, h3 => by
  have := Qh1 (S := a) (p := p) (q := q) (by simpa [Sh.sub] using h1) h2 (by simpa [Sh.sub] using h3)
  simpa [Sh.off] using this
 | .pair a b, true :: p, true :: q, s, T, e, h1, h2, h3 => by
  have := Qh1 (S := b) (p := p) (q := q) (by simpa [Sh.sub] using h1) h2 (by simpa [Sh.sub] using h3)
  simp only [Sh.off]; omega
 | .pair a b, false :: p, true :: q, s, T, e, h1, h2, h3 => by
  have := Qbk (S := a) (p := p) (s := s) (by simpa [Sh.sub] using h1)
  simp only [Sh.off]; omega
 | .pair a b, true :: p, false :: q, s, T, e, h1, h2, h3 => by
  have := Qbk (S := a) (p := q) (s := .sl T e) (by simpa [Sh.sub] using h3)
  simp only [Sh.off, Sh.size] at this ⊢; omega
 | .int _, _ :: _, _, _, _, _, h, _, _ => by simp [Sh.sub] at h
 | .bool, _ :: _, _, _, _, _, h, _, _ => by simp [Sh.sub] at h
 | .str, _ :: _, _, _, _, _, h, _, _ => by simp [Sh.sub] at h
 | .sl _ _, _ :: _, _, _, _, _, h, _, _ => by simp [Sh.sub] at h
 | .unit, _ :: _, _, _, _, _, h, _, _ => by simp [Sh.sub] at h
section
variable {P : Program} {X : Ctx} {w : World} {st : Blks} {ρ : Nat -> Value} {φ : Nat -> Blks} {n : Nat} {a : Act} {s : St} {o : Oper} {hp : Nat -> Ob}
theorem Qou {O : Nat -> Ob} : ∀ {S : Sh} {v : AV} {id : Nat}, Fit O S v -> id ∈ v.ids -> ∃ T e xs, IsArr (O id) T e xs := by
 intro S v
 induction v generalizing S with
 | pair u v ihu ihv =>
  intro id h hid
  rcases Qfb h with ⟨x, hx⟩ | ⟨p, q, u', v', rfl, e, h1, h2⟩ | ⟨T, e, rfl, hx⟩
  ·cases hx
  ·cases e
   rcases List.mem_append.1 hid with h | h
   ·exact ihu h1 h
   ·exact ihv h2 h
  ·rcases hx with hx | ⟨_, _, hx, _⟩ | hx <;> cases hx
 | sref j ix p =>
  intro id h hid
  rcases Qfb h with ⟨x, hx⟩ | ⟨p, q, u', v', rfl, e, h1, h2⟩ | ⟨T, e, rfl, hx⟩
  ·cases hx
  ·cases e
  ·rcases hx with hx | ⟨k, xs, hx, ho⟩ | hx
   ·cases hx
   ·cases hx; simp [AV.ids] at hid; subst hid; exact ⟨_, _, _, ho⟩
   ·cases hx
 | ptr j ix p =>
  intro id h hid
  rcases Qfb h with ⟨x, hx⟩ | ⟨p, q, u', v', rfl, e, h1, h2⟩ | ⟨T, e, rfl, hx⟩
  ·cases hx
  ·cases e
  ·rcases hx with hx | ⟨k, xs, hx, ho⟩ | hx <;> cases hx
 | fn j ix =>
  intro id h hid
  rcases Qfb h with ⟨x, hx⟩ | ⟨p, q, u', v', rfl, e, h1, h2⟩ | ⟨T, e, rfl, hx⟩
  ·cases hx
  ·cases e
  ·rcases hx with hx | ⟨k, xs, hx, ho⟩ | hx <;> cases hx
 | tcons u v _ _ =>
  intro id h hid
  have := Qk1 h
  simp [AV.isTup] at this
 | _ => intro id h hid; simp [AV.ids] at hid
theorem Qk8 (hA : TyAll P X) {T : TypeId} {x y : Operand} (ho : o.op = .store T x y) (h : Sim w st ρ φ X.n a s) (hd : dstOk X o.dst = true) {S : Sh} {nf : Nat} (hT : X.ty T = some (S, nf))
  {id : Nat} {p : List Bool} (hx : rho X s.env 0 x = .ptr id none p) {S' : Sh} {u u' : AV} (hob : s.hp id = .box S' u) (hsub : S'.sub p = some S) (hF1 : Fit s.hp S (rho X s.env T y)) (hnu : rho X s.env T y ≠ .unk) (hset : setA u p (rho X s.env T y) = some u') :
  Does P X o w st ρ φ a s ⟨true, .unk, [(id, .box S' u')], [], []⟩ := by
 have rx := Qap h 0 x
 rw [hx] at rx
 obtain ⟨b, of, hpt, e⟩ := Qao rx rfl rfl (by simp)
 have e : a.eval x = .pointer (some ⟨b, of, none⟩) := by simpa using e
 obtain ⟨S'', s'', hS, hr, hs2, rfl⟩ := hpt
 have : S'' = S' := by
  rcases hS with ⟨v, hv⟩ | ⟨v, hv⟩ <;> rw [hob] at hv <;> cases hv; rfl
 subst this
 have hobr := h.ob id
 rw [hob] at hobr
 obtain ⟨b', arr, T', hr', hφ, hheap, hFu, hRu⟩ := hobr
 rw [hr] at hr'; cases hr'
 obtain ⟨cu, hv, hRv⟩ := Qdq hF1 hnu (Qap h T y)
 obtain ⟨hF2, hR2⟩ := Qfd hFu hRu hsub hF1 hRv hset
 have hlu := Qcc hF1 hRv
 have hlc := Qcc hFu hRu
 have hss := Qbk hsub
 have hasz : arr.size = S''.size := by simpa using hlc
 have hst := (hA _ _ _ hT).storeVar hv hlu (Qdc hRv) hheap (o := S''.off p) (by omega)
 have hkeep : ∀ k, k ≠ b -> (w.setRow b (patch arr.toList (S''.off p) cu).toArray).heap[k]? = w.heap[k]? := fun k hk => setRow_other w b k _ hk
 have hstb : ¬ st b := (h.lt id b hφ).2
 have hids : ∀ j ∈ u'.ids, j ≠ id := fun j hj e => by
  obtain ⟨_, _, _, hh⟩ := Qou hF2 hj
  rw [e, hob] at hh; exact hh.not_box
 have hlive : ∀ j ∈ u'.ids, s.hp j ≠ .none := fun j hj => by
  obtain ⟨_, _, _, hh⟩ := Qou hF2 hj
  exact hh.live
 have hm : Sim (w.setRow b (patch arr.toList (S''.off p) cu).toArray) st ρ φ X.n a ⟨s.env, updL s.hp [(id, .box S'' u')]⟩ := by
  refine h.upd (by simp) (fun _ h => h) (fun k hk => hkeep k (fun e => hstb (e ▸ hk))) (fun j hj => ⟨rfl, rfl, fun k hk => hkeep k (fun e => ?_)⟩) (by simp) (fun q hq => ?_) (fun _ => true) (fun q hq hne => ?_) (by simp)
   (fun j k hk => ⟨by simpa using (h.lt j k hk).1, (h.lt j k hk).2⟩) h.dj (fun k hk => by simpa using h.stlt k hk) (fun q hq j hj => ?_)
  ·subst e; exact (by simpa using hj : j ≠ id) (h.dj j id k hk hφ)
  ·simp at hq; subst hq
   refine ⟨b, _, T', hr, hφ, setRow_heap w b _ _ T' _ hheap, ?_, ?_⟩
   ·refine Qcg (fun j hj T e xs he => ⟨xs, ?_⟩) hF2
    show IsArr (Go.Vm.upd s.hp id _ j) _ _ _
    rw [Qa5 _ _ (hids j hj)]; exact he
   ·refine Qb6 (fun _ h => h) (fun k hk => hkeep k (fun e => hstb (e ▸ hk))) (fun j hj => ?_) (by simpa using hR2)
    have e1 : updL s.hp [(id, .box S'' u')] j = s.hp j := Qa5 _ _ (hids j hj)
    rw [e1]
    exact h.compat (hlive j hj) rfl (fun k hk => hkeep k (fun e => hids j hj (h.dj j id k hk (e ▸ hφ)))) _
  ·simp at hq; subst hq
   rw [hob]
   refine ⟨rfl, rfl, fun _ i p b o hp _ => ?_⟩
   obtain ⟨T, el, xs, sh, l, c, h4, _⟩ := hp
   exact h4.not_box.elim
  ·simp at hq; subst hq
   show Go.Vm.upd s.hp id _ j ≠ _
   rw [Qa5 _ _ (hids j hj)]; exact hlive j hj
 refine ⟨.skip, undef, _, st, _, _, by simp [execOp, ho, e, Instr.storeAt, Instr.sureAddr, hst], .inr ⟨rfl, rfl⟩, hm.put o.dst _ .unk (fun q hq => ?_) (Qeq _) (by simp [AV.ids]), ?_⟩
 ·rw [hq] at hd; simpa [dstOk, Nat.blt_eq] using hd
 ·refine ⟨rfl, rfl, rfl, by simp, fun k hk hn => hkeep k (fun e => hn id (e ▸ hφ)), fun _ h => h, fun _ h => .inl h, fun j k hk => .inl ⟨j, hk⟩, fun j hp5 hn => ⟨?_, rfl⟩⟩
  have : (s.app o.dst ⟨true, .unk, [(id, .box S'' u')], [], []⟩).hp j = Go.Vm.upd s.hp id (.box S'' u') j := by cases o.dst <;> rfl
  rw [this] at hn
  by_cases hj : j = id
  ·rw [hj, hob]; simp
  ·rwa [Qa5 _ _ hj] at hn
end
end Go.Vm

set_option linter.unusedVariables false
set_option linter.unusedSimpArgs false
namespace Go.Vm
section
variable {P : Program} {X : Ctx} {w : World} {st : Blks} {ρ : Nat -> Value} {φ : Nat -> Blks} {n : Nat} {a : Act} {s : St} {o : Oper} {hp : Nat -> Ob}
theorem Qqx {D : List Nat} {id : Nat} {T : TypeId} {e : Sh} {xs : List e.den} (h : s.hp id = .arr T e xs) (hn : id ∉ D) : (s.scrub D).hp id = .arr T e xs := by
 cases D with
 | nil => exact h
 | cons x D =>
  show (bif mem id (x :: D) then Ob.none else (s.hp id).mapA _) = _
  rw [Qaq.2 hn, h]; rfl
theorem Qlo {D : List Nat} {id : Nat} {T : TypeId} {e : Sh} {xs : List e.den} (h : s.hp id = .arr T e xs) : (s.killN D).hp id = .arr T e xs := by
 cases D with
 | nil => exact h
 | cons x D =>
  show ((s.hp id).mapA _) = _
  rw [h]; rfl
theorem Qd2 {D : List Nat} {id : Nat} (h : (s.killN D).hp id ≠ .none) : s.hp id ≠ .none := by
 cases D with
 | nil => exact h
 | cons x D =>
  have h : (s.hp id).mapA (AV.killN (x :: D)) ≠ .none := h
  intro e; rw [e] at h; exact h rfl
theorem Qej {D : List Nat} {id : Nat} (hd : id ∈ D) : (∀ t, ((s.killN D).env t).nests id = false) /\ ∀ k S v, (s.killN D).hp k = .box S v -> v.nests id = false := by
 cases D with
 | nil => cases hd
 | cons x D =>
  refine ⟨fun t => Qeh hd, fun k S v hv => ?_⟩
  have hv : (s.hp k).mapA (AV.killN (x :: D)) = .box S v := hv
  cases hk : s.hp k with
  | box S' u => rw [hk] at hv; cases hv; exact Qeh hd
  | none => rw [hk] at hv; cases hv
  | cbox _ _ => rw [hk] at hv; cases hv
  | arr _ _ _ => rw [hk] at hv; cases hv
  | iarr _ _ _ => rw [hk] at hv; cases hv
theorem Qn7 {b o : Nat} {arr : Array Value} {T : TypeId} {fz : Nat × Nat} {cs : List Value} (h : w.heap[b]? = some (.cells arr T fz)) (ho : cs[o]? = arr.toList[o]?) :
  (w.setRow b cs.toArray).cell? ⟨b, o, none⟩ = w.cell? ⟨b, o, none⟩ := by
 have := setRow_heap w b arr cs.toArray T fz h
 simp only [World.cell?, h, this]
 simp at ho ⊢
 exact ho
theorem Qk9 (hA : TyAll P X) {T : TypeId} {x y : Operand} (ho : o.op = .store T x y) (h : Sim w st ρ φ X.n a s) (hd : dstOk X o.dst = true) (hle : Le hp s.hp) {S : Sh} {nf : Nat} (hT : X.ty T = some (S, nf))
  {id : Nat} {i : Int} {p : List Bool} (hx : rho X s.env 0 x = .ptr id (some i) p) {E : TypeId} {e : Sh} {xs : List e.den} (hob : s.hp id = .arr E e xs) (hsub : e.sub p = some S) {v : S.den} {D : List Nat}
  (hab : absorb hp S (rho X s.env T y) = some (v, D)) {z : e.den} (hset : setT e (rdL xs i) p S v = some z) (hnd : (id :: D).Nodup) (c : Bool) :
  Does P X o w st ρ φ a s ⟨c, .unk, [(id, .arr E e (xs.set i.toNat z))], D, bif S.flat then [] else [id]⟩ := by
 have rx := Qap h 0 x
 rw [hx] at rx
 obtain ⟨b, of, hpt, ee⟩ := Qao rx rfl rfl (by simp)
 have ee : a.eval x = .pointer (some ⟨b, of, none⟩) := by simpa using ee
 obtain ⟨E', e', xs', sh, ll, cc, hh, hr, h0, hi, hs2, hof⟩ := hpt
 cases hh.of_arr hob
 simp only [List.nodup_cons] at hnd
 have hobr := h.ob id
 rw [hob] at hobr
 rcases hobr with ⟨rfl, _⟩ | ⟨b', cap, arr, F', hr', g1, g2, g3, g4, g5, g6, g7, g8⟩
 ·simp at hi
 have hr' : ρ id = .slice (some ⟨b', 0, none⟩) xs.length cap := by simpa using hr'
 rw [hr] at hr'; cases hr'
 obtain ⟨cs, hv, hRv⟩ := Qet hab (Qap h T y)
 have hlu := Qkb hab hRv
 have hOv := Qcl h hle hab hnd.2 hRv
 have hss := Qbk hsub
 have hic : i.toNat * e.size + e.size <= arr.size := by
  rw [g7]
  have : (i.toNat + 1) * e.size <= cc * e.size := Nat.mul_le_mul_right _ (by omega)
  rw [Nat.add_mul] at this; omega
 have hst := (hA _ _ _ hT).storeVar hv hlu (Qc2 hOv) g4 (o := of) (by omega)
 have hkeep : ∀ k, k ≠ b -> (w.setRow b (patch arr.toList of cs).toArray).heap[k]? = w.heap[k]? := fun k hk => setRow_other w b k _ hk
 have hstb : ¬ st b := (h.lt id b g1).2
 have hpl : of + cs.length <= arr.toList.length := by rw [hlu]; simp; omega
 have hnew := setRow_heap w b arr (patch arr.toList of cs).toArray E _ g4
 have hDb : ∀ c, (∃ k ∈ D, φ k c) -> c ≠ b /\ ¬ φ id c := by
  rintro c ⟨k, hk, hc⟩
  have : ¬ φ id c := fun hc' => by
   have := h.dj id k c hc' hc; subst this; exact hnd.1 hk
  exact ⟨fun e => this (e ▸ g1), this⟩
 have hFb : ∀ c, F' c -> c ≠ b := fun c hc e => g2 (e ▸ hc)
 -- the elements behind
 obtain ⟨F1, hF1, hE1, k1⟩ := Qk0 g8 (Qde hi)
 obtain ⟨y0, hy0⟩ := Qen hsub (rdL xs i)
 obtain ⟨F2, hF2, hE2, k2⟩ := Qgu hE1 hy0
 have hOw : Ow (w.setRow b (patch arr.toList of cs).toArray) (.sl E e) (xs.set i.toNat z) [ρ id] (fun c => φ id c ∨ ∃ k ∈ D, φ k c) := by
  have hz := k2 (w.setRow b (patch arr.toList of cs).toArray) (((patch arr.toList of cs).drop (i.toNat * e.size)).take e.size) (fun c => ∃ k ∈ D, φ k c) v z hset
   (by simp only [List.length_take, List.length_drop, Qer hpl])
   (fun k hk => by
    simp only [List.getElem?_take, List.getElem?_drop]
    split
    ·exact Qes hpl (by rw [hlu]; omega)
    ·rfl)
   (fun c hc _ => hkeep c (hFb c (hF1 c hc)))
   (fun c hc hc1 => absurd (g3 c (hF1 c hc1)) (hDb c hc).2)
   (by
    have e1 : ((((patch arr.toList of cs).drop (i.toNat * e.size)).take e.size).drop (e.off p)).take S.size = cs := by
     have := Qjm (cs := arr.toList) (cu := cs) (o := of) hpl
     rw [hlu] at this
     rw [List.drop_take, List.take_take, Nat.min_eq_left (by omega), List.drop_drop, <- hof]; exact this
    rw [e1]
    exact Qbw (fun c hc => hkeep c (hDb c hc).1) hOv)
  have hl := k1 (fun x c G => Ow (w.setRow b (patch arr.toList of cs).toArray) e x c G) (patch arr.toList of cs) _ z
   (fun x' c H hH _ hx => Qbw (fun q hq => hkeep q (hFb q (hH q hq))) hx)
   (fun k hk => Qes hpl (by rw [hlu]; omega))
   (fun c hc hc' => by
    rcases hc with ⟨hc, _⟩ | hc
    ·exact hc
    ·exact absurd (g3 c hc') (hDb c hc).2)
   hz
  refine .inr ⟨b, cc, (patch arr.toList of cs).toArray, _, by rw [hr, List.length_set], .inl g1, ?_, ?_, hnew, by rw [List.length_set]; exact g5, g6, by rw [List.size_toArray, Qer hpl]; simpa using g7, hl⟩
  ·rintro (⟨hc, _⟩ | ⟨hc, _⟩ | hc)
   ·exact g2 hc
   ·exact g2 (hF1 _ hc)
   ·exact (hDb _ hc).1 rfl
  ·rintro c (⟨hc, _⟩ | ⟨hc, _⟩ | hc)
   ·exact .inl (g3 c hc)
   ·exact .inl (g3 c (hF1 c hc))
   ·exact .inr hc
 have hs1 := (h.scrub D).killN (bif S.flat then [] else [id])
 have ho1 : ((s.scrub D).killN (bif S.flat then [] else [id])).hp id = .arr E e xs := Qlo (Qqx hob hnd.1)
 have hm : Sim (w.setRow b (patch arr.toList of cs).toArray) st ρ (fun j c => if j = id then φ id c ∨ ∃ k ∈ D, φ k c else φ j c /\ j ∉ D) X.n a
   ⟨((s.scrub D).killN (bif S.flat then [] else [id])).env, updL ((s.scrub D).killN (bif S.flat then [] else [id])).hp [(id, .arr E e (xs.set i.toNat z))]⟩ := by
  refine hs1.upd (by simp) (fun _ h => h) (fun k hk => hkeep k (fun e => hstb (e ▸ hk))) (fun j hj => ?_) (by simp) (fun q hq => ?_) (fun _ => S.flat) (fun q hq hne => ?_) (fun q hq hf => ?_)
   (fun j k hk => ?_) (fun j j' k h1 h2 => ?_) (fun k hk => by simpa using h.stlt k hk) (by simp [Ob.ids])
  ·have hne : j ≠ id := by simpa using hj
   refine ⟨rfl, by funext c; simp [hne], fun k hk => hkeep k (fun e => hne (h.dj j id k hk.1 (e ▸ g1)))⟩
  ·simp at hq; subst hq
   show Ow _ (.sl E e) _ [ρ id] _
   exact Ow_up (fun c hc => by simpa using hc) hOw
  ·simp at hq; subst hq
   simp only
   rw [ho1]
   refine ⟨rfl, ⟨rfl, rfl, by simp⟩, fun hf i' p' b' o' hp' hsl => ?_⟩
   obtain ⟨T1, e1, xs1, s1, l1, c1, q1, q2, q3, q4, q5, q6⟩ := hp'
   obtain ⟨T2, e2, q7⟩ := hsl _ _ _ (.inl rfl)
   cases q1.of_arr rfl
   rw [hr] at q2; cases q2
   have hap := Qh1 hsub hf q7
   have hz2 := Qbk q7
   simp only [Sh.size] at hz2
   refine Qn7 g4 (Qes hpl ?_)
   rw [hlu]
   by_cases hii : i'.toNat = i.toNat
   ·rw [hii] at q6; omega
   ·have := Qhz (sz := e.size) hii
    omega
  ·simp at hq; subst hq
   have hf : S.flat = false := hf
   rw [hf]
   exact Qej (by simp)
  ·by_cases hj : j = id
   ·simp only [hj, if_true] at hk
    rcases hk with hk | ⟨m, hm, hk⟩
    ·exact ⟨by simpa using (h.lt id k hk).1, (h.lt id k hk).2⟩
    ·exact ⟨by simpa using (h.lt m k hk).1, (h.lt m k hk).2⟩
   ·simp only [hj, if_false] at hk
    exact ⟨by simpa using (h.lt j k hk.1).1, (h.lt j k hk.1).2⟩
  ·have key : ∀ j', j' ≠ id -> (φ id k ∨ ∃ m ∈ D, φ m k) -> φ j' k /\ j' ∉ D -> False := by
    rintro j' hj' (h1 | ⟨m, hm, h1⟩) ⟨h2, h3⟩
    ·exact hj' (h.dj j' id k h2 h1)
    ·have := h.dj m j' k h1 h2; subst this; exact h3 hm
   by_cases hj : j = id <;> by_cases hj' : j' = id
   ·rw [hj, hj']
   ·simp only [hj, if_true] at h1; simp only [hj', if_false] at h2
    exact (key j' hj' h1 h2).elim
   ·simp only [hj', if_true] at h2; simp only [hj, if_false] at h1
    exact (key j hj h2 h1).elim
   ·simp only [hj, hj', if_false] at h1 h2
    exact h.dj j j' k h1.1 h2.1
 refine ⟨.skip, undef, _, st, _, _, by simp [execOp, ho, ee, Instr.storeAt, Instr.sureAddr, hst], .inr ⟨rfl, rfl⟩, hm.put o.dst _ .unk (fun q hq => ?_) (Qeq _) (by simp [AV.ids]), ?_⟩
 ·rw [hq] at hd; simpa [dstOk, Nat.blt_eq] using hd
 ·refine ⟨rfl, rfl, rfl, by simp, fun k hk hn => hkeep k (fun e => hn id (e ▸ g1)), fun _ h => h, fun _ h => .inl h, fun j k hk => ?_, fun j hp5 hn => ⟨?_, rfl⟩⟩
  ·by_cases hj : j = id
   ·simp only [hj, if_true] at hk
    rcases hk with hk | ⟨m, hm, hk⟩
    ·exact .inl ⟨id, hk⟩
    ·exact .inl ⟨m, hk⟩
   ·simp only [hj, if_false] at hk; exact .inl ⟨j, hk.1⟩
  ·have : (s.app o.dst ⟨c, .unk, [(id, .arr E e (xs.set i.toNat z))], D, bif S.flat then [] else [id]⟩).hp j = Go.Vm.upd ((s.scrub D).killN (bif S.flat then [] else [id])).hp id (.arr E e (xs.set i.toNat z)) j := by cases o.dst <;> rfl
   rw [this] at hn
   by_cases hj : j = id
   ·rw [hj, hob]; simp
   ·rw [Qa5 _ _ hj] at hn
    exact (Qg1 (Qd2 hn)).1
theorem Qux : s.scrub [] = s := rfl
theorem Qkd (hA : TyAll P X) {T : TypeId} {x y : Operand} (ho : o.op = .store T x y) (h : Sim w st ρ φ X.n a s) (hd : dstOk X o.dst = true) (hle : Le hp s.hp) {S : Sh} {nf : Nat} (hT : X.ty T = some (S, nf))
  {id : Nat} {i : Int} (hx : rho X s.env 0 x = .ptr id (some i) []) {E : TypeId} {xs : List S.den} (hob : s.hp id = .iarr E S xs) {z : S.den}
  (htv : toVal hp S (rho X s.env T y) = some z) (hids : (rho X s.env T y).ids = []) (c : Bool) :
  Does P X o w st ρ φ a s ⟨c, .unk, [(id, .iarr E S (xs.set i.toNat z))], [], [id]⟩ := by
 have rx := Qap h 0 x
 rw [hx] at rx
 obtain ⟨b, of, hpt, ee⟩ := Qao rx rfl rfl (by simp)
 have ee : a.eval x = .pointer (some ⟨b, of, none⟩) := by simpa using ee
 obtain ⟨E', e', xs', sh, ll, cc, hh, hr, h0, hi, hs2, hof⟩ := hpt
 cases hh.of_iarr hob
 have hobr := h.ob id
 rw [hob] at hobr
 rcases hobr with ⟨rfl, _⟩ | ⟨b', cap, arr, hr', g1, g4, g5, g7, g8⟩
 ·simp at hi
 rw [hr] at hr'; cases hr'
 rw [Qba, Nat.add_zero] at hof
 obtain ⟨cs, hv, hRv⟩ := Qeb htv (Qap h T y)
 have hIm : Im w st S z cs := by
  have := Qcv h hle htv hRv
  refine Im_up (fun b hb => ?_) this
  rcases hb with hb | ⟨j, hj, _⟩
  ·exact hb
  ·rw [hids] at hj; cases hj
 have hlu := Qbn hIm
 have hic : i.toNat * S.size + S.size <= arr.size := by
  rw [g7]
  have : (i.toNat + 1) * S.size <= cc * S.size := Nat.mul_le_mul_right _ (by omega)
  rw [Nat.add_mul] at this; omega
 have hst := (hA _ _ _ hT).storeVar hv hlu (Qgt hIm) g4 (o := of) (by omega)
 have hkeep : ∀ k, k ≠ b -> (w.setRow b (patch arr.toList of cs).toArray).heap[k]? = w.heap[k]? := fun k hk => setRow_other w b k _ hk
 have hstb : ¬ st b := (h.lt id b g1).2
 have hpl : of + cs.length <= arr.toList.length := by rw [hlu]; simp; omega
 have hnew := setRow_heap w b arr (patch arr.toList of cs).toArray E _ g4
 have hw : ∀ k, st k -> (w.setRow b (patch arr.toList of cs).toArray).heap[k]? = w.heap[k]? := fun k hk => hkeep k (fun e => hstb (e ▸ hk))
 have hs1 := h.killN [id]
 have ho1 : (s.killN [id]).hp id = .iarr E S xs := by
  show ((s.hp id).mapA _) = _
  rw [hob]; rfl
 have hm : Sim (w.setRow b (patch arr.toList of cs).toArray) st ρ φ X.n a ⟨(s.killN [id]).env, updL (s.killN [id]).hp [(id, .iarr E S (xs.set i.toNat z))]⟩ := by
  refine hs1.upd (by simp) (fun _ h => h) hw (fun j hj => ?_) (by simp) (fun q hq => ?_) (fun _ => false) (fun q hq hne => ?_) (fun q hq hf => ?_)
   (fun j k hk => ?_) h.dj (fun k hk => by simpa using h.stlt k hk) (by simp [Ob.ids])
  ·have hne : j ≠ id := by simpa using hj
   exact ⟨rfl, rfl, fun k hk => hkeep k (fun e => hne (h.dj j id k hk (e ▸ g1)))⟩
  ·simp at hq; subst hq
   refine .inr ⟨b, cc, (patch arr.toList of cs).toArray, by rw [hr, List.length_set], g1, hnew, by rw [List.length_set]; exact g5, by rw [List.size_toArray, Qer hpl]; simpa using g7, fun k x hk => ?_⟩
   simp only [List.getElem?_set, hi, if_true] at hk
   split at hk
   ·rename_i hki
    cases hk
    subst hki
    have := Qjm (cs := arr.toList) (cu := cs) (o := of) hpl
    rw [hlu] at this
    rw [<- hof]
    show Im _ _ _ _ (List.take _ (List.drop _ (patch arr.toList of cs)))
    rw [this]
    exact Qb8 (fun _ h => h) hw hIm
   ·rename_i hki
    have := g8 k x hk
    have e : ((patch arr.toList of cs).drop (k * S.size)).take S.size = (arr.toList.drop (k * S.size)).take S.size :=
     Qj2 (fun j h1 h2 => Qes hpl (by
      rw [hlu]
      have := Qhz (sz := S.size) hki
      omega))
    rw [e]
    exact Qb8 (fun _ h => h) hw this
  ·simp at hq; subst hq
   simp only
   rw [ho1]
   exact ⟨rfl, ⟨rfl, rfl, by simp⟩, fun hf => by cases hf⟩
  ·simp at hq; subst hq
   exact Qej (by simp)
  ·exact ⟨by simpa using (h.lt j k hk).1, (h.lt j k hk).2⟩
 refine ⟨.skip, undef, _, st, _, _, by simp [execOp, ho, ee, Instr.storeAt, Instr.sureAddr, hst], .inr ⟨rfl, rfl⟩, hm.put o.dst _ .unk (fun q hq => ?_) (Qeq _) (by simp [AV.ids]), ?_⟩
 ·rw [hq] at hd; simpa [dstOk, Nat.blt_eq] using hd
 ·refine ⟨rfl, rfl, rfl, by simp, fun k hk hn => hkeep k (fun e => hn id (e ▸ g1)), fun _ h => h, fun _ h => .inl h, fun j k hk => .inl ⟨j, hk⟩, fun j hp5 hn => ⟨?_, rfl⟩⟩
  have : (s.app o.dst ⟨c, .unk, [(id, .iarr E S (xs.set i.toNat z))], [], [id]⟩).hp j = Go.Vm.upd (s.killN [id]).hp id (.iarr E S (xs.set i.toNat z)) j := by cases o.dst <;> rfl
  rw [this] at hn
  by_cases hj : j = id
  ·rw [hj, hob]; simp
  ·rw [Qa5 _ _ hj] at hn
   exact Qd2 hn
theorem Qpi (hA : TyAll P X) {T : TypeId} {x y : Operand} (ho : o.op = .store T x y) (h : Sim w st ρ φ X.n a s) (hd : dstOk X o.dst = true) (hle : Le hp s.hp) {S : Sh} {nf : Nat} (hT : X.ty T = some (S, nf)) {r : Res}
  (hr : storeAV hp S (rho X s.env 0 x) (rho X s.env T y) = some r) : Does P X o w st ρ φ a s r := by
 cases hx : rho X s.env 0 x with
 | ptr id ix p =>
  rw [hx] at hr
  cases ix with
  | none =>
   simp only [storeAV] at hr
   cases hq : hp id with
   | box S' u =>
    rw [hq] at hr; simp only at hr
    split at hr
    ·rename_i hsub
     cases hf : fits hp S (rho X s.env T y) <;> rw [hf] at hr
     ·cases hr
     simp only [cond_true] at hr
     cases hset : setA u p (rho X s.env T y) with
     | none => rw [hset] at hr; cases hr
     | some u' =>
      rw [hset] at hr; cases hr
      obtain ⟨hF, hnu⟩ := Qgz hle hf
      exact Qk8 hA ho h hd hT hx (hle.get hq (by simp)) hsub hF hnu hset
    ·cases hr
   | _ => rw [hq] at hr; cases hr
  | some i =>
   simp only [storeAV] at hr
   cases hq : hp id with
   | arr E e xs =>
    rw [hq] at hr; simp only at hr
    split at hr
    ·rename_i hsub
     cases hab : absorb hp S (rho X s.env T y) with
     | none => rw [hab] at hr; cases hr
     | some q =>
      obtain ⟨v, D⟩ := q
      rw [hab] at hr; simp only at hr
      cases hset : setT e (rdL xs i) p S v with
      | none => rw [hset] at hr; cases hr
      | some z =>
       rw [hset] at hr; simp only at hr
       cases hnd : nodup (id :: D) <;> rw [hnd] at hr
       ·cases hr
       simp only [cond_true, Option.some.injEq] at hr
       subst hr
       exact Qk9 hA ho h hd hle hT hx (hle.get hq (by simp)) hsub hab hset (Qb1.1 hnd) _
    ·cases hr
   | iarr E e xs =>
    rw [hq] at hr
    cases p with
    | cons _ _ => cases hr
    | nil =>
     cases hids : (rho X s.env T y).ids with
     | cons _ _ => simp [hids] at hr
     | nil =>
      simp only [hids] at hr
      split at hr
      ·rename_i he; subst he
       cases htv : toVal hp e (rho X s.env T y) with
       | none => rw [htv] at hr; cases hr
       | some z =>
        rw [htv] at hr
        simp only [Option.some.injEq] at hr
        subst hr
        exact Qkd hA ho h hd hle hT hx (hle.get hq (by simp)) htv hids _
      ·cases hr
   | _ => rw [hq] at hr; cases hr
 | _ => rw [hx] at hr; cases hr
end
end Go.Vm

set_option linter.unusedVariables false
set_option linter.unusedSimpArgs false
namespace Go.Vm
section
variable {P : Program} {X : Ctx} {w : World} {st : Blks} {ρ : Nat -> Value} {φ : Nat -> Blks} {n : Nat} {a : Act} {s : St} {o : Oper} {hp : Nat -> Ob}
theorem Qfp {l : List Nat} {d : Nat} {ob : Ob} (h : newOk s l [(d, ob)] = true) (hn : (restr s.hp l d).isNone = true) : s.hp d = .none /\ d % 10000 < 5000 := by
 simp only [newOk, Bool.and_true] at h
 unfold restr at hn
 cases hi : (s.hp d).isNone
 ·rw [hi] at h
  have h : mem d l = true := h
  rw [h] at hn
  simp only [cond_true] at hn
  rw [hi] at hn; cases hn
 ·rw [hi] at h
  refine ⟨Qj9.1 hi, ?_⟩
  simpa [Nat.blt_eq] using h
theorem Qn8 {d : Nat} {T : TypeId} {e : Sh} {x y : AV} {r : Res} (h : appendAV hp d T e x y = some r) : (hp d).isNone = true /\ ∃ ob, r.up = [(d, ob)] := by
 unfold appendAV at h
 split at h
 ·rename_i xs l ys m _ _
  cases hc : (nodup (l ++ m) && (hp d).isNone) <;> rw [hc] at h
  ·cases h
  ·simp only [cond_true, Option.some.injEq] at h
   subst h
   simp only [Bool.and_eq_true] at hc
   exact ⟨hc.2, _, rfl⟩
 ·cases h
theorem Qlp {v : AV} {n : Int} (h : oneI v = some n) : ∃ k, v = .val (.int k) n := by
 unfold oneI at h
 split at h
 ·cases h; exact ⟨_, rfl⟩
 ·cases h
theorem Qqy (hA : TyAll P X) (h : Sim w st ρ φ X.n a s) (hd : dstOk X o.dst = true) {l : List Nat} {r : Res} (hnew : newOk s l r.up = true)
  (hr : core X o (rho X s.env) (restr s.hp l) = some r) (hc : r.c = true) (hcall : ∀ c f, o.op = .call c -> c.callee = .value f -> Does P X o w st ρ φ a s r) : Does P X o w st ρ φ a s r := by
 have hle := Qmv s.hp l
 unfold core at hr
 cases hop : o.op with
 | move x => simp only [hop] at hr; cases hr; exact Qlm (.inl hop) h hd
 | assign x => simp only [hop] at hr; cases hr; exact Qlm (.inr hop) h hd
 | pick c x y =>
  simp only [hop] at hr
  split at hr
  ·rename_i t ht
   have := Qqp (P := P) hop h hd ht
   cases t <;> simp only [cond_true, cond_false, Option.some.injEq] at hr this <;> subst hr <;> exact this
  ·cases hr
 | alloc T =>
  simp only [hop] at hr
  split at hr
  ·rename_i S nf d hT hdst
   cases hn : (restr s.hp l d).isNone <;> rw [hn] at hr
   ·cases hr
   simp only [cond_true, Option.some.injEq] at hr
   subst hr
   obtain ⟨h1, h2⟩ := Qfp hnew hn
   exact Qpe hA hop h hdst h1 hd h2 hT
  ·cases hr
 | box T x =>
  simp only [hop] at hr
  split at hr
  ·rename_i S nf d hT hdst
   cases hn : (fits (restr s.hp l) S (rho X s.env T x) && (restr s.hp l d).isNone) <;> rw [hn] at hr
   ·cases hr
   simp only [cond_true, Option.some.injEq] at hr
   subst hr
   simp only [Bool.and_eq_true] at hn
   obtain ⟨h1, h2⟩ := Qfp hnew hn.2
   exact Qss hA hop h hle hdst h1 hd h2 hn.1
  ·cases hr
 | build T parts =>
  simp only [hop] at hr
  split at hr
  ·rename_i p q nf hT
   split at hr
   ·rename_i v hv
    cases hr
    exact Qph hA hop h hd hle hT hv rfl
   ·cases hr
  ·cases hr
 | buildSlice T n parts =>
  simp only [hop] at hr
  split at hr
  ·rename_i E e nf d hT hdst
   exact Qkc hA hop h hle hdst hd hT (fun ob he hn => Qfp (he ▸ hnew) hn) hr
  ·cases hr
 | load T x =>
  simp only [hop] at hr
  split at hr
  ·rename_i S nf hT
   exact Qqt hA hop h hd hle hT hr
  ·cases hr
 | store T x y =>
  simp only [hop] at hr
  split at hr
  ·rename_i S nf hT
   exact Qpi hA hop h hd hle hT hr
  ·cases hr
 | nilCheck x =>
  simp only [hop] at hr
  split at hr
  ·rename_i id ix p hx
   cases hr
   exact Qml hop h hd hx
  ·cases hr
 | binOp op T x y T' =>
  simp only [hop] at hr
  split at hr
  ·rename_i r' hn
   cases hr
   exact Qqr hA hop h hd hn
  ·exact Qsn hA hop h hd hle hr hc
 | unOp op T x =>
  simp only [hop] at hr
  split at hr
  ·rename_i b h1 h2; cases hr; exact Qso hop h hd (by assumption)
  ·cases hr; exact Qsp hop h hd (by assumption)
  ·cases hr
 | convert src dst x =>
  simp only [hop] at hr
  split at hr
  ·rename_i q hq
   exact Qqu hA hop h hd hle hr ⟨q, hq⟩
  ·cases hr
 | makeFunc fn first caps =>
  simp only [hop] at hr
  unfold makeFuncAV at hr
  split at hr
  ·rename_i f hf
   split at hr
   ·rename_i m hm
    cases hr
    exact Qmm hop hf h hd hm
   ·cases hr
  ·cases hr
 | makeSlice T x y =>
  simp only [hop] at hr
  split at hr
  ·rename_i E e nf d hT hdst
   split at hr
   ·rename_i n m h1 h2
    obtain ⟨k1, e1⟩ := Qlp h1
    obtain ⟨k2, e2⟩ := Qlp h2
    cases hn : (restr s.hp l d).isNone <;> rw [hn] at hr
    ·cases hr
    simp only [cond_true, Option.some.injEq] at hr
    subst hr
    obtain ⟨h3, h4⟩ := Qfp hnew hn
    simp only [Bool.and_eq_true, decide_eq_true_eq] at hc
    have hbig := hc.1.2
    unfold BIG at hbig
    exact Qk6 hA hop h hdst h3 hd h4 hT e1 e2 hc.1.1 (by simpa using hbig) hc.2 _
   ·cases hr
  ·cases hr
 | slice T x lo hi mx =>
  simp only [hop] at hr
  split at hr
  ·rename_i S nf hT
   exact Qpd hA hop h hd hT hr hc
  ·cases hr
 | fieldAddr T x f =>
  simp only [hop] at hr
  split at hr
  ·rename_i S nf hT
   cases hf : Nat.blt f nf <;> rw [hf] at hr
   ·cases hr
   simp only [cond_true] at hr
   exact Qk4 hA hop h hd hle hT (by simpa [Nat.blt_eq] using hf) hr
  ·cases hr
 | field T x f =>
  simp only [hop] at hr
  split at hr
  ·rename_i S nf hT
   cases hf : (Nat.blt f nf && fits (restr s.hp l) S (rho X s.env 0 x)) <;> rw [hf] at hr
   ·cases hr
   simp only [cond_true] at hr
   simp only [Bool.and_eq_true, Nat.blt_eq] at hf
   split at hr
   ·rename_i v hv
    cases hr
    exact Qpc hA hop h hd hle hT hf.1 hf.2 hv
   ·cases hr
  ·cases hr
 | indexAddr T x y =>
  simp only [hop] at hr
  split at hr
  ·rename_i E e nf hT
   exact Qk5 hA hop h hd hle hT hr hc
  ·cases hr
 | index T x y =>
  simp only [hop] at hr
  split at hr
  ·rename_i nf z k i hT hx hy
   cases hr
   simp only [Res.when, Bool.and_eq_true, decide_eq_true_eq] at hc
   exact Qpb hA hop h hd hT hx hy hc.1 hc.2 _
  ·cases hr
 | extract x i =>
  simp only [hop] at hr
  split at hr
  ·rename_i v hv
   cases ht : v.isTup <;> rw [ht] at hr
   ·simp only [cond_false, Option.some.injEq] at hr
    subst hr
    exact Qmx hop h hd hv ht
   ·cases hr
  ·cases hr
 | call c =>
  simp only [hop] at hr
  split at hr
  ·rename_i hcal
   split at hr
   ·rename_i x T ts ha hts
    split at hr
    ·rename_i S nf hT
     exact Qsq hA hop hcal ha hts h hd hle hT hr
    ·cases hr
   ·cases hr
  ·rename_i hcal
   split at hr
   ·rename_i x y T T' d ha hts hdst
    split at hr
    ·rename_i hTT
     subst hTT
     split at hr
     ·rename_i E e nf hT
      obtain ⟨h1, ob, h2⟩ := Qn8 hr
      rw [h2] at hnew
      obtain ⟨h3, h4⟩ := Qfp hnew h1
      exact Qn6 hA hop hcal ha hts hdst h hd hle hT hr hc h3 h4
     ·cases hr
    ·cases hr
   ·cases hr
  ·rename_i f hcal
   exact hcall c f hop hcal
  ·cases hr
 | _ => simp only [hop] at hr; cases hr
end
end Go.Vm

set_option linter.unusedVariables false
set_option linter.unusedSimpArgs false
namespace Go.Vm
def CapsR (w : World) (st : Blks) : (ss : List Sh) -> (chain ss).den -> List Value -> Prop
 | [], _, vs => vs = []
 | s :: r, x, vs => ∃ b arr T fz vs', vs = .pointer (some ⟨b, 0, none⟩) :: vs' /\ st b /\ w.heap[b]? = some (.cells arr T fz) /\ Im w st s x.1 arr.toList /\ CapsR w st r x.2 vs'
def ArgR (w : World) (st : Blks) : (m : Mode) -> m.inSh.den -> Value -> Blks -> Prop
 | .imm S, x, v, _ => ∃ cs, VR S v cs /\ Im w st S x cs
 | .own S, x, v, F => ∃ cs, VR S v cs /\ Ow w S x cs F
 | .lend T e, x, v, F => Ow w (.sl T e) x [v] F
 | .pO S, x, v, F => ∃ b arr T F', v = .pointer (some ⟨b, 0, none⟩) /\ F b /\ w.heap[b]? = some (.cells arr T (0, 0)) /\ Ow w S x arr.toList F' /\ ¬ F' b /\ ∀ c, F' c -> F c
 | .pI S, x, v, F => ∃ b arr T, v = .pointer (some ⟨b, 0, none⟩) /\ F b /\ w.heap[b]? = some (.cells arr T (0, 0)) /\ Im w st S x arr.toList
 | .pR S, x, v, _ => ∃ b arr T fz, v = .pointer (some ⟨b, 0, none⟩) /\ st b /\ w.heap[b]? = some (.cells arr T fz) /\ Im w st S x arr.toList
 | .clo f ss, x, v, _ => ∃ vs, v = .func (.func f) #[] vs.toArray /\ CapsR w st ss x vs
 | .loan S, x, v, F => ∃ cs, VR S v cs /\ Ow w S x cs F
def ArgsR (w : World) (st : Blks) : (ms : List Mode) -> (insSh ms).den -> List Value -> Blks -> Prop
 | [], _, vs, _ => vs = []
 | m :: ms, x, vs, F => ∃ v r F1 F2, vs = v :: r /\ (∀ b, F1 b -> F2 b -> False) /\ (∀ b, F1 b -> F b) /\ (∀ b, F2 b -> F b) /\ ArgR w st m x.1 v F1 /\ ArgsR w st ms x.2 r F2
def BackR (w : World) (st : Blks) : (ms : List Mode) -> (backSh ms).den -> List Value -> Blks -> Prop
 | [], _, _, _ => True
 | m :: ms, y, vs, F => ∃ v r F1 F2, vs = v :: r /\ (∀ b, F1 b -> F2 b -> False) /\ (∀ b, F1 b -> F b) /\ (∀ b, F2 b -> F b) /\
   (∀ z, (splitB m ms y).1 = some z -> ArgR w st m z v F1) /\ BackR w st ms (splitB m ms y).2 r F2
def ResR (w : World) (st : Blks) : (rs : List (RK × Sh)) -> (ms : List Mode) -> (outSh rs ms).den -> List Value -> List Value -> Blks -> Prop
 | [], ms, y, us, vs, F => us = [] /\ BackR w st ms y vs F
 | (.new, S) :: rs, ms, y, us, vs, F => ∃ u r F1 F2, us = u :: r /\ (∀ b, F1 b -> F2 b -> False) /\ (∀ b, F1 b -> F b) /\ (∀ b, F2 b -> F b) /\ ArgR w st (.pI S) y.1 u F1 /\ ResR w st rs ms y.2 r vs F2
 | (.own, S) :: rs, ms, y, us, vs, F => ∃ u r F1 F2 cs, us = u :: r /\ (∀ b, F1 b -> F2 b -> False) /\ (∀ b, F1 b -> F b) /\ (∀ b, F2 b -> F b) /\ VR S u cs /\ Ow w S y.1 cs F1 /\ ResR w st rs ms y.2 r vs F2
 | (.imm, S) :: rs, ms, y, us, vs, F => ∃ u r cs, us = u :: r /\ VR S u cs /\ Im w st S y.1 cs /\ ResR w st rs ms y.2 r vs F
def retV : List Value -> Value
 | [u] => u
 | us => .tuple us.toArray
structure Post (w w' : World) (st L : Blks) (c : Con) (x : (insSh c.ps).den) (vals us : List Value) (st' G : Blks) : Prop where
 os : w'.os = w.os
 tape : w'.tape = w.tape
 output : w'.output = w.output
 size : w.heap.size <= w'.heap.size
 keep : ∀ b, b < w.heap.size -> ¬ L b -> w'.heap[b]? = w.heap[b]?
 st1 : ∀ b, st b -> st' b
 st2 : ∀ b, st' b -> st b ∨ L b ∨ w.heap.size <= b
 stlt : ∀ b, st' b -> b < w'.heap.size
 g1 : ∀ b, G b -> L b ∨ w.heap.size <= b
 g2 : ∀ b, G b -> b < w'.heap.size /\ ¬ st' b
 res : ResR w' st' c.rs c.ps (c.fn x) us vals G
def Meets (P : Program) (f : FuncId) (args : Array Value) (w : World) (R : Ending -> World -> Prop) : Prop :=
 ((callFunc f args).run P w = .ok (.enter f args) w /\ Calls P f args w R) ∨ ∃ v w', (callFunc f args).run P w = .ok (.value v) w' /\ R (.returned v) w'
theorem Meets.mono {P : Program} {f : FuncId} {args : Array Value} {w : World} {R R' : Ending -> World -> Prop} (h : Meets P f args w R) (hr : ∀ e w', R e w' -> R' e w') : Meets P f args w R' :=
 h.imp (fun ⟨h1, h2⟩ => ⟨h1, h2.mono hr⟩) fun ⟨v, w', h1, h2⟩ => ⟨v, w', h1, hr _ _ h2⟩
def Sound (P : Program) (f : FuncId) (c : Con) : Prop :=
 ∀ (w : World) (st : Blks) (vals : List Value) (x : (insSh c.ps).den) (L : Blks), (∀ b, st b -> b < w.heap.size /\ ¬ L b) -> (∀ b, L b -> b < w.heap.size) -> c.pre x = true -> ArgsR w st c.ps x vals L ->
  Meets P f vals.toArray w fun e w' => ∃ us st' G, e = .returned (retV us) /\ Post w w' st L c x vals us st' G
structure Lay (w : World) (st : Blks) (F : Blks) (l : List (Nat × Ob)) (ρ1 : Nat -> Value) (φ1 : Nat -> Blks) : Prop where
 sup : ∀ id b, φ1 id b -> F b /\ id ∈ l.map (·.1)
 dj : ∀ i j b, φ1 i b -> φ1 j b -> i = j
 nn : ∀ q ∈ l, q.2 ≠ .none
 ids : ∀ q ∈ l, ∀ id ∈ q.2.ids, id ∈ l.map (·.1)
 ob : ∀ (ρ : Nat -> Value) (O : Nat -> Ob), (∀ id ∈ l.map (·.1), ρ id = ρ1 id) -> (∀ q ∈ l, O q.1 = q.2) -> ∀ q ∈ l, ObR w st ρ φ1 O q.1 q.2
variable {w : World} {st : Blks} {hp : Nat -> Ob}
theorem Lay.nil (F : Blks) (ρ1 : Nat -> Value) : Lay w st F [] ρ1 (fun _ _ => False) :=
 ⟨fun _ _ h => h.elim, fun _ _ _ h => h.elim, by simp, by simp, by simp⟩
theorem Lay.up {F F' : Blks} {l : List (Nat × Ob)} {ρ1 : Nat -> Value} {φ1 : Nat -> Blks} (h : Lay w st F l ρ1 φ1) (hF : ∀ b, F b -> F' b) : Lay w st F' l ρ1 φ1 :=
 ⟨fun id b hb => ⟨hF b (h.sup id b hb).1, (h.sup id b hb).2⟩, h.dj, h.nn, h.ids, h.ob⟩
theorem Lay.set {F : Blks} {l l' : List (Nat × Ob)} {ρ1 : Nat -> Value} {φ1 : Nat -> Blks} (h : Lay w st F l ρ1 φ1) (hl : ∀ q, q ∈ l' ↔ q ∈ l) : Lay w st F l' ρ1 φ1 := by
 have hk : ∀ id, id ∈ l'.map (·.1) ↔ id ∈ l.map (·.1) := fun id => by
  simp only [List.mem_map, hl]
 exact ⟨fun id b hb => ⟨(h.sup id b hb).1, (hk id).2 (h.sup id b hb).2⟩, h.dj, fun q hq => h.nn q ((hl q).1 hq), fun q hq id hid => (hk id).2 (h.ids q ((hl q).1 hq) id hid),
  fun ρ O h1 h2 q hq => h.ob ρ O (fun id hid => h1 id ((hk id).2 hid)) (fun q hq => h2 q ((hl q).2 hq)) q ((hl q).1 hq)⟩
theorem Qdw {ρ : Nat -> Value} {φ φ' : Nat -> Blks} {O : Nat -> Ob} {id : Nat} {o : Ob} (h : ObR w st ρ φ O id o) (e : ∀ b, φ' id b ↔ φ id b) : ObR w st ρ φ' O id o := by
 have e : φ' id = φ id := funext fun b => propext (e b)
 cases o with
 | none => intro b; rw [e]; exact h b
 | box S v => obtain ⟨b, arr, T, h1, h2, h3⟩ := h; exact ⟨b, arr, T, h1, by rw [e]; exact h2, h3⟩
 | cbox S x => obtain ⟨b, arr, T, fz, h1, h2, h3, h4, h5⟩ := h; exact ⟨b, arr, T, fz, h1, h2, h3, h4, by rw [e]; exact h5⟩
 | arr T el xs => show Ow _ _ _ _ _; rw [e]; exact h
 | iarr T el xs =>
  rcases h with h | ⟨b, cap, arr, h1, h2, h3⟩
  ·exact .inl h
  ·exact .inr ⟨b, cap, arr, h1, by rw [e]; exact h2, h3⟩
theorem Lay.both {F F1 F2 : Blks} {l1 l2 : List (Nat × Ob)} {ρ1 ρ2 : Nat -> Value} {φ1 φ2 : Nat -> Blks} (h1 : Lay w st F1 l1 ρ1 φ1) (h2 : Lay w st F2 l2 ρ2 φ2) (hdis : ∀ b, F1 b -> F2 b -> False)
  (hF1 : ∀ b, F1 b -> F b) (hF2 : ∀ b, F2 b -> F b) (hk : ∀ id, id ∈ l1.map (·.1) -> id ∉ l2.map (·.1)) :
  Lay w st F (l1 ++ l2) (fun id => bif mem id (l1.map (·.1)) then ρ1 id else ρ2 id) (fun id b => φ1 id b ∨ φ2 id b) := by
 have hr1 : ∀ id, id ∈ l1.map (·.1) -> (bif mem id (l1.map (·.1)) then ρ1 id else ρ2 id) = ρ1 id := fun id hid => by rw [Qav.2 hid]; rfl
 have hr2 : ∀ id, id ∈ l2.map (·.1) -> (bif mem id (l1.map (·.1)) then ρ1 id else ρ2 id) = ρ2 id := fun id hid => by
  rw [Qaq.2 (fun h => hk id h hid)]; rfl
 refine ⟨fun id b hb => ?_, fun i j b hi hj => ?_, fun q hq => ?_, fun q hq id hid => ?_, fun ρ O e1 e2 q hq => ?_⟩
 ·rw [List.map_append, List.mem_append]
  rcases hb with hb | hb
  ·exact ⟨hF1 b (h1.sup id b hb).1, .inl (h1.sup id b hb).2⟩
  ·exact ⟨hF2 b (h2.sup id b hb).1, .inr (h2.sup id b hb).2⟩
 ·rcases hi with hi | hi <;> rcases hj with hj | hj
  ·exact h1.dj i j b hi hj
  ·exact (hdis b (h1.sup i b hi).1 (h2.sup j b hj).1).elim
  ·exact (hdis b (h1.sup j b hj).1 (h2.sup i b hi).1).elim
  ·exact h2.dj i j b hi hj
 ·rcases List.mem_append.1 hq with hq | hq
  ·exact h1.nn q hq
  ·exact h2.nn q hq
 ·rw [List.map_append, List.mem_append]
  rcases List.mem_append.1 hq with hq | hq
  ·exact .inl (h1.ids q hq id hid)
  ·exact .inr (h2.ids q hq id hid)
 ·have hm : ∀ q ∈ l1, q.1 ∈ l1.map (·.1) := fun q hq => List.mem_map.2 ⟨q, hq, rfl⟩
  have hm2 : ∀ q ∈ l2, q.1 ∈ l2.map (·.1) := fun q hq => List.mem_map.2 ⟨q, hq, rfl⟩
  rcases List.mem_append.1 hq with hq | hq
  ·refine Qdw (h1.ob ρ O (fun id hid => ?_) (fun q hq => e2 q (by simp [hq])) q hq) (fun b => ⟨fun hb => ?_, .inl⟩)
   ·rw [e1 id (by rw [List.map_append]; simp only [List.mem_append]; exact .inl hid), hr1 id hid]
   ·rcases hb with hb | hb
    ·exact hb
    ·exact (hk q.1 (hm q hq) (h2.sup _ b hb).2).elim
  ·refine Qdw (h2.ob ρ O (fun id hid => ?_) (fun q hq => e2 q (by simp [hq])) q hq) (fun b => ⟨fun hb => ?_, .inr⟩)
   ·rw [e1 id (by rw [List.map_append]; simp only [List.mem_append]; exact .inr hid), hr2 id hid]
   ·rcases hb with hb | hb
    ·exact (hk q.1 (h1.sup _ b hb).2 (hm2 q hq)).elim
    ·exact hb
def LoanC (ρ : Nat -> Value) : (S : Sh) -> S.den -> List Value -> Nat -> Prop
 | .int k, x, cs, _ => cs = [.int k x]
 | .bool, x, cs, _ => cs = [.bool x]
 | .str, x, cs, _ => cs = [.string x]
 | .unit, _, cs, _ => cs = []
 | .pair a b, x, cs, k => ∃ c1 c2, cs = c1 ++ c2 /\ LoanC ρ a x.1 c1 k /\ LoanC ρ b x.2 c2 (k + 10000 * a.nsl)
 | .sl _ _, _, cs, k => cs = [ρ k]
theorem Qf5 : ∀ {S : Sh} {x : S.den} {cs : List Value} {F : Blks} {k k' : Nat} {v : AV} {l : List (Nat × Ob)}, Ow w S x cs F -> intro S x k = (v, l, k') -> (l.map (·.1)).Nodup ->
  ∃ ρ1 φ1, Lay w st F l ρ1 φ1 /\ (∀ id ∈ v.ids, id ∈ l.map (·.1)) /\ (∀ b, ∀ id, φ1 id b -> F b) /\
   (∀ (st' : Blks) (ρ : Nat -> Value) (O : Nat -> Ob), (∀ id ∈ l.map (·.1), ρ id = ρ1 id) -> (∀ q ∈ l, O q.1 = q.2) -> Fit O S v /\ RC w st' ρ O v cs) /\
   k' = k + 10000 * S.nsl /\ ∀ ρ : Nat -> Value, (∀ id ∈ l.map (·.1), ρ id = ρ1 id) -> LoanC ρ S x cs k
 | .int i, x, cs, F, k, k', v, l, h, e, hn => by
  cases e; exact ⟨fun _ => undef, _, Lay.nil F _, by simp [AV.ids], fun _ _ h => h.elim, fun _ _ _ _ _ => ⟨rfl, h⟩, rfl, fun _ _ => h⟩
 | .bool, x, cs, F, k, k', v, l, h, e, hn => by
  cases e; exact ⟨fun _ => undef, _, Lay.nil F _, by simp [AV.ids], fun _ _ h => h.elim, fun _ _ _ _ _ => ⟨rfl, h⟩, rfl, fun _ _ => h⟩
 | .str, x, cs, F, k, k', v, l, h, e, hn => by
  cases e; exact ⟨fun _ => undef, _, Lay.nil F _, by simp [AV.ids], fun _ _ h => h.elim, fun _ _ _ _ _ => ⟨rfl, h⟩, rfl, fun _ _ => h⟩
 | .unit, x, cs, F, k, k', v, l, h, e, hn => by
  cases e; exact ⟨fun _ => undef, _, Lay.nil F _, by simp [AV.ids], fun _ _ h => h.elim, fun _ _ _ _ _ => ⟨rfl, h⟩, rfl, fun _ _ => h⟩
 | .sl T el, xs, cs, F, k, k', v, l, h, e, hn => by
  cases e
  obtain ⟨vv, hcs, hone⟩ : ∃ vv, cs = [vv] /\ vv.oneCell' = true := by
   have := Qc2 h
   rcases h with ⟨_, A, rfl⟩ | ⟨b, cap, arr, F', rfl, _⟩
   ·exact ⟨_, rfl, rfl⟩
   ·exact ⟨_, rfl, rfl⟩
  subst hcs
  refine ⟨fun _ => vv, fun id b => id = k /\ F b, ⟨?_, ?_, by simp, by simp [Ob.ids], ?_⟩, by simp [AV.ids], fun b id hb => hb.2, fun st' ρ O h1 h2 => ?_, rfl, fun ρ h1 => ?_⟩
  ·rintro id b ⟨rfl, hb⟩; exact ⟨hb, by simp⟩
  ·rintro i j b ⟨rfl, _⟩ ⟨rfl, _⟩; rfl
  ·intro ρ O h1 h2 q hq
   simp at hq; subst hq
   show Ow w (.sl T el) xs [ρ k] _
   rw [h1 k (by simp)]
   exact Ow_up (fun b hb => ⟨rfl, hb⟩) h
  ·have hO := h2 (k, .arr T el xs) (by simp)
   have hr := h1 k (by simp)
   exact ⟨⟨xs, rfl, rfl, .inl hO⟩, rfl, ⟨T, el, xs, .inl hO⟩, by rw [hr], by rw [hr]; exact hone⟩
  ·show [vv] = [ρ k]
   rw [h1 k (by simp)]
 | .pair a b, x, cs, F, k, k', v, l, ⟨c1, c2, F1, F2, hc, hdis, hF1, hF2, hx1, hx2⟩, e, hn => by
  simp only [intro] at e
  cases e1 : intro a x.1 k with
  | mk u p =>
  obtain ⟨l1, k1⟩ := p
  cases e2 : intro b x.2 k1 with
  | mk v2 p =>
  obtain ⟨l2, k2⟩ := p
  rw [e1] at e; simp only at e
  rw [e2] at e; simp only [Prod.mk.injEq] at e
  obtain ⟨rfl, rfl, rfl⟩ := e
  rw [List.map_append] at hn
  have hn' := List.nodup_append.1 hn
  obtain ⟨ρ1, φ1, g1, g2, g3, g4, g5, g6⟩ := Qf5 hx1 e1 hn'.1
  obtain ⟨ρ2, φ2, q1, q2, q3, q4, q5, q6⟩ := Qf5 hx2 e2 hn'.2.1
  have hk : ∀ id, id ∈ l1.map (·.1) -> id ∉ l2.map (·.1) := fun id h1 h2 => hn'.2.2 id h1 id h2 rfl
  refine ⟨_, _, Lay.both (F := F) g1 q1 hdis hF1 hF2 hk, fun id hid => ?_, fun b id hb => hb.elim (fun h => hF1 b (g3 b id h)) (fun h => hF2 b (q3 b id h)), fun st' ρ O h1 h2 => ?_, by rw [q5, g5]; simp only [Sh.nsl]; omega, fun ρ h1 => ⟨c1, c2, hc, g6 ρ (fun id hid => ?_), g5 ▸ q6 ρ (fun id hid => ?_)⟩⟩
  ·rw [List.map_append, List.mem_append]
   exact (Qch hid).elim (fun h => .inl (g2 id h)) (fun h => .inr (q2 id h))
  ·have w1 := g4 st' ρ O (fun id hid => by
    rw [h1 id (by rw [List.map_append, List.mem_append]; exact .inl hid), Qav.2 hid]; rfl) (fun q hq => h2 q (by simp [hq]))
   have w2 := q4 st' ρ O (fun id hid => by
    rw [h1 id (by rw [List.map_append, List.mem_append]; exact .inr hid), Qaq.2 (fun h => hk id h hid)]; rfl) (fun q hq => h2 q (by simp [hq]))
   exact ⟨Qb5 w1.1 w2.1, by rw [hc]; exact Qb7 w1.2 w2.2⟩
  ·rw [h1 id (by rw [List.map_append, List.mem_append]; exact .inl hid), Qav.2 hid]; rfl
  ·rw [h1 id (by rw [List.map_append, List.mem_append]; exact .inr hid), Qaq.2 (fun h => hk id h hid)]; rfl
theorem Qg3 {S : Sh} {x : S.den} {cs : List Value} {F : Blks} {k k' : Nat} {v : AV} {l : List (Nat × Ob)} (h : Ow w S x cs F) (e : intro S x k = (v, l, k')) (hn : (l.map (·.1)).Nodup) :
  ∃ ρ1 φ1, Lay w st F l ρ1 φ1 /\ (∀ id ∈ v.ids, id ∈ l.map (·.1)) /\ (∀ b, ∀ id, φ1 id b -> F b) /\
   ∀ (st' : Blks) (ρ : Nat -> Value) (O : Nat -> Ob), (∀ id ∈ l.map (·.1), ρ id = ρ1 id) -> (∀ q ∈ l, O q.1 = q.2) -> Fit O S v /\ RC w st' ρ O v cs := by
 obtain ⟨ρ1, φ1, g1, g2, g3, g4, _⟩ := Qf5 (st := st) h e hn
 exact ⟨ρ1, φ1, g1, g2, g3, g4⟩
end Go.Vm

set_option linter.unusedVariables false
set_option linter.unusedSimpArgs false
namespace Go.Vm
def Tn : Ob -> Ob -> Prop
 | .box S _, .box S' _ => S' = S
 | .arr T e xs, .arr T' e' xs' => T' = T /\ e' = e /\ xs.length <= xs'.length
 | _, _ => False
section
variable {P : Program} {X : Ctx} {w : World} {st : Blks} {ρ : Nat -> Value} {φ : Nat -> Blks} {n : Nat} {a : Act} {s : St} {o : Oper} {hp : Nat -> Ob}
theorem Ow_sl {T : TypeId} {e : Sh} {xs : List e.den} {v : Value} {F : Blks} (h : Ow w (.sl T e) xs [v] F) : ∃ A cap, v = .slice A xs.length cap := by
 rcases h with ⟨rfl, A, e⟩ | ⟨b, cap, arr, F', e, _⟩
 ·exact ⟨A, 0, by simpa using e⟩
 ·exact ⟨_, cap, by simpa using e⟩
theorem Qg4 (h : Sim w st ρ φ n a s) (hle : Le hp s.hp) {st1 : Blks} : ∀ {ss : List Sh} {ids : List Nat} {x : (chain ss).den}, capsVal hp ss ids = some x ->
  (∀ b, st b ∨ (∃ id ∈ ids ++ ids.flatMap (fun id => (hp id).ids), φ id b) -> st1 b) -> CapsR w st1 ss x (ids.map ρ)
 | [], [], x, hx, _ => rfl
 | [], _ :: _, x, hx, _ => by simp [capsVal] at hx
 | _ :: _, [], x, hx, _ => by simp [capsVal] at hx
 | S :: ss, id :: ids, x, hx, hst => by
  simp only [capsVal] at hx
  have hrest : ∀ b, st b ∨ (∃ j ∈ ids ++ ids.flatMap (fun id => (hp id).ids), φ j b) -> st1 b := fun b hb => hst b (by
   rcases hb with hb | ⟨j, hj, hb⟩
   ·exact .inl hb
   ·refine .inr ⟨j, ?_, hb⟩
    simp only [List.mem_append, List.flatMap_cons, List.mem_cons] at hj ⊢
    rcases hj with hj | hj
    ·exact .inl (.inr hj)
    ·exact .inr (.inr hj))
  split at hx
  ·rename_i y z hy hz
   cases hx
   have ih := Qg4 h hle hz hrest
   cases hq : hp id with
   | box S' v =>
    rw [hq] at hy; simp only at hy
    split at hy
    ·rename_i hSS
     subst hSS
     have hob := h.ob id
     rw [hle.get hq (by simp)] at hob
     obtain ⟨b, arr, T, h1, h2, h3, h4, h5⟩ := hob
     have him := Qcv h hle hy h5
     refine ⟨b, arr, T, (0, 0), ids.map ρ, by simp [h1], hst b (.inr ⟨id, by simp, h2⟩), h3, Im_up (fun c hc => hst c ?_) him, ih⟩
     rcases hc with hc | ⟨j, hj, hc⟩
     ·exact .inl hc
     ·refine .inr ⟨j, ?_, hc⟩
      simp only [List.mem_append, List.flatMap_cons, hq]
      exact .inr (.inl hj)
    ·cases hy
   | cbox S' y' =>
    rw [hq] at hy; simp only at hy
    obtain ⟨hSS, rfl⟩ := Qbl hy
    subst hSS
    have hob := h.ob id
    rw [hle.get hq (by simp)] at hob
    obtain ⟨b, arr, T, fz, h1, h2, h3, h4, h5⟩ := hob
    exact ⟨b, arr, T, fz, ids.map ρ, by simp [h1], hst b (.inl h2), h3, Im_up (fun c hc => hst c (.inl hc)) h4, ih⟩
   | _ => rw [hq] at hy; cases hy
  ·cases hx
def ArgOk (w : World) (st1 : Blks) (ρ : Nat -> Value) (φ : Nat -> Blks) (hp O : Nat -> Ob) (m : Mode) (a : AV) (v : Value) (x : m.inSh.den) (dr wr : List Nat) : Prop :=
 ∃ F : Blks, (∀ b, F b -> ∃ id ∈ wr, φ id b) /\ ArgR w st1 m x v F /\ (∀ id ∈ wr, O id ≠ .none) /\ (∀ id ∈ dr, id ∈ wr) /\
  ∀ (w' : World) (st' : Blks) (oz : Option m.inSh.den) (k k' : Nat) (t nw : List (Nat × Ob)) (G : Blks), backA hp m a oz k = some (t, nw, k') -> (∀ z, oz = some z -> ArgR w' st' m z v G) ->
   (∀ b, (∃ id ∈ wr, φ id b) -> ¬ F b -> w'.heap[b]? = w.heap[b]?) -> (∀ b, G b -> (∃ id ∈ wr, φ id b) -> F b) -> ((t ++ nw).map (·.1)).Nodup ->
   (∀ id ∈ wr, id ∈ dr ∨ id ∈ t.map (·.1)) /\ (∀ q ∈ t, q.1 ∈ wr /\ Tn (O q.1) q.2) /\
   ∃ ρ1 φ1, Lay w' st' (fun b => G b ∨ ((∃ id ∈ wr, φ id b) /\ ¬ F b)) (t ++ nw) ρ1 φ1 /\ ∀ q ∈ t, ρ1 q.1 = ρ q.1
theorem Qe3 {st1 : Blks} {O : Nat -> Ob} {m : Mode} {av : AV} {v : Value} {x : m.inSh.den} {D : List Nat} {F : Blks} (hF : ∀ b, F b -> ∃ id ∈ D, φ id b) (hx : ArgR w st1 m x v F) (hl : ∀ id ∈ D, O id ≠ .none)
  (hb : ∀ oz k, backA hp m av oz k = some ([], [], k)) : ArgOk w st1 ρ φ hp O m av v x D D := by
 refine ⟨F, hF, hx, hl, fun _ h => h, fun w' st' oz k k' t nw G hbk _ _ _ _ => ?_⟩
 rw [hb] at hbk; cases hbk
 exact ⟨fun id hid => .inl hid, by simp, fun _ => undef, _, Lay.nil _ _, by simp⟩
theorem Qto (h : Sim w st ρ φ n a s) (hle : Le hp s.hp) {st1 : Blks} {S : Sh} {av : AV} {v : Value} {x : S.den} {D : List Nat} (hg : absorb hp S av = some (x, D)) (hnd : D.Nodup) (hv : RV w st ρ s.hp av v) :
  ArgOk w st1 ρ φ hp s.hp (.own S) av v x D D := by
 obtain ⟨cs, h1, h2⟩ := Qet hg hv
 refine Qe3 (F := fun b => ∃ id ∈ D, φ id b) (fun b hb => hb) ⟨cs, h1, Qcl h hle hg hnd h2⟩ (fun id hid => ?_) (fun oz k => rfl)
 have := (Qgy hg id hid).2
 rw [hle id this]; exact this
theorem Qst (h : Sim w st ρ φ n a s) (hle : Le hp s.hp) {st1 : Blks} {T : TypeId} {e : Sh} {id : Nat} {xs : List e.den} {v : Value} (hq : hp id = .arr T e xs) (hv : RV w st ρ s.hp (.sref id none []) v) :
  ArgOk w st1 ρ φ hp s.hp (.lend T e) (.sref id none []) v xs [] [id] := by
 obtain ⟨_, _, ee, hone⟩ := Qao hv rfl rfl (by simp)
 have ee : v = ρ id := by simpa using ee
 have hob := h.ob id
 have hO := hle.get hq (by simp)
 rw [hO] at hob
 have hob : Ow w (.sl T e) xs [v] (φ id) := by rw [ee]; exact hob
 refine ⟨φ id, fun b hb => ⟨id, by simp, hb⟩, hob, fun j hj => by simp at hj; subst hj; rw [hO]; simp, by simp, fun w' st' oz k k' t nw G hb hz hsame hG hnd => ?_⟩
 cases oz with
 | none => simp [backA] at hb
 | some z =>
  simp only [backA, Option.some.injEq, Prod.mk.injEq] at hb
  obtain ⟨rfl, rfl, rfl⟩ := hb
  have hz : Ow w' (.sl T e) z [v] G := hz z rfl
  obtain ⟨A, cap, e1⟩ := Ow_sl hob
  obtain ⟨A', cap', e2⟩ := Ow_sl hz
  have hlen : xs.length = z.length := by
   rw [e1] at e2
   simp only [Value.slice.injEq] at e2
   exact e2.2.1
  refine ⟨by simp, fun q hq => ?_, fun _ => ρ id, fun j c => j = id /\ G c, ⟨?_, ?_, by simp, by simp [Ob.ids], ?_⟩, by simp⟩
  ·simp at hq; subst hq
   refine ⟨by simp, ?_⟩
   simp only [hO, Tn]
   refine ⟨trivial, trivial, ?_⟩
   omega
  ·rintro j c ⟨rfl, hc⟩; exact ⟨.inl hc, by simp⟩
  ·rintro i j b ⟨rfl, _⟩ ⟨rfl, _⟩; rfl
  ·intro ρ' O h1 h2 q hq
   simp at hq; subst hq
   show Ow w' (.sl T e) z [ρ' id] _
   rw [h1 id (by simp), <- ee]
   exact Ow_up (fun c hc => ⟨rfl, hc⟩) hz
theorem Qsu (h : Sim w st ρ φ n a s) (hle : Le hp s.hp) {st1 : Blks} {T T' : TypeId} {e e' : Sh} {id : Nat} {i : Int} {p : List Bool} {xs : List e'.den} {y : List e.den} {v : Value} (hq : hp id = .arr T' e' xs)
  (hg : getT e' (rdL xs i) p = some ⟨.sl T e, y⟩) (hv : RV w st ρ s.hp (.sref id (some i) p) v) : ArgOk w st1 ρ φ hp s.hp (.lend T e) (.sref id (some i) p) v y [] [id] := by
 obtain ⟨b, of, v', hpt, _, hcell, ee, hone⟩ := Qao hv rfl rfl (by simp)
 have ee : v = v' := by simpa using ee
 subst ee
 have hO := hle.get hq (by simp)
 obtain ⟨T1, e1, xs1, sh, ll, cc, hh, hr, h0, hi, hs2, hof⟩ := hpt
 cases hh.of_arr hO
 have hob := h.ob id
 rw [hO] at hob
 rcases hob with ⟨rfl, _⟩ | ⟨b', cap, arr, F', hr', g1, g2, g3, g4, g5, g6, g7, g8⟩
 ·simp at hi
 have hr' : ρ id = .slice (some ⟨b', 0, none⟩) xs.length cap := by simpa using hr'
 rw [hr] at hr'; cases hr'
 obtain ⟨F1, hF1, hE1, k1⟩ := Qk0 g8 (Qde hi)
 obtain ⟨F2, hF2, hE2, k2⟩ := Qgu hE1 hg
 have hsz := Qbk (Qcb hg)
 have hseg : (((arr.toList.drop (i.toNat * e'.size)).take e'.size).drop (e'.off p)).take (Sh.sl T e).size = [v] := by
  have hl := Qb9 hE2
  obtain ⟨u, hu⟩ : ∃ u, (((arr.toList.drop (i.toNat * e'.size)).take e'.size).drop (e'.off p)).take (Sh.sl T e).size = [u] := by
   revert hl
   generalize (((arr.toList.drop (i.toNat * e'.size)).take e'.size).drop (e'.off p)).take (Sh.sl T e).size = L
   intro hl
   match L, hl with
   | [u], _ => exact ⟨u, rfl⟩
  rw [hu]
  have hc0 : ((arr.toList.drop of).take (Sh.sl T e).size)[0]? = some u := by
   have hu' := hu
   rw [List.drop_take, List.take_take, Nat.min_eq_left (by omega), List.drop_drop, <- hof] at hu'
   rw [hu']; rfl
  have := Qbo g4 0 u hc0
  rw [Nat.add_zero, hcell] at this
  cases this; rfl
 rw [hseg] at hE2
 refine ⟨F2, fun c hc => ⟨id, by simp, g3 c (hF1 c (hF2 c hc))⟩, hE2, fun j hj => by simp at hj; subst hj; rw [hO]; simp, by simp, fun w' st' oz k k' t nw G hb hz hsame hG hnd => ?_⟩
 cases oz with
 | none => simp [backA] at hb
 | some z =>
  simp only [backA, hq] at hb
  cases hset : setT e' (rdL xs i) p (.sl T e) z with
  | none => rw [hset] at hb; cases hb
  | some z' =>
   rw [hset] at hb
   simp only [Option.some.injEq, Prod.mk.injEq] at hb
   obtain ⟨rfl, rfl, rfl⟩ := hb
   have hz : Ow w' (.sl T e) z [v] G := hz z rfl
   have hbF : ¬ F2 b := fun hb => g2 (hF1 b (hF2 b hb))
   have e1 := k2 w' ((arr.toList.drop (i.toNat * e'.size)).take e'.size) G z z' hset rfl (fun _ _ => rfl) (fun c hc hc2 => hsame c ⟨id, by simp, g3 c (hF1 c hc)⟩ hc2)
    (fun c hc hc1 => hG c hc ⟨id, by simp, g3 c (hF1 c hc1)⟩) (by rw [hseg]; exact hz)
   have e2 := k1 (fun x c G => Ow w' e' x c G) arr.toList _ z' (fun x' c H hH hH1 hx => Qbw (fun q hq => hsame q ⟨id, by simp, g3 q (hH q hq)⟩ (fun h2 => hH1 q hq (hF2 q h2))) hx) (fun _ _ => rfl)
    (fun c hc hc' => by
     rcases hc with ⟨hc, _⟩ | hc
     ·exact hc
     ·exact hF2 c (hG c hc ⟨id, by simp, g3 c hc'⟩)) e1
   refine ⟨by simp, fun q hq => ?_, fun _ => ρ id, fun j c => j = id /\ (G c ∨ (φ id c /\ ¬ F2 c)), ⟨?_, ?_, by simp, by simp [Ob.ids], ?_⟩, by simp⟩
   ·simp at hq; subst hq
    refine ⟨by simp, ?_⟩
    simp only [hO, Tn]
    exact ⟨trivial, trivial, by simp⟩
   ·rintro j c ⟨rfl, hc | ⟨hc, hn⟩⟩
    ·exact ⟨.inl hc, by simp⟩
    ·exact ⟨.inr ⟨⟨j, by simp, hc⟩, hn⟩, by simp⟩
   ·rintro i j b ⟨rfl, _⟩ ⟨rfl, _⟩; rfl
   ·intro ρ' O h1 h2 q hq
    simp at hq; subst hq
    show Ow w' (.sl T' e') _ [ρ' id] _
    rw [h1 id (by simp), hr]
    refine .inr ⟨b, cc, arr, _, by rw [List.length_set], ⟨rfl, .inr ⟨g1, hbF⟩⟩, ?_, ?_, by rw [hsame b ⟨id, by simp, g1⟩ hbF]; exact g4, by rw [List.length_set]; exact g5, g6, g7, e2⟩
    ·rintro (⟨hc, _⟩ | ⟨hc, _⟩ | hc)
     ·exact g2 hc
     ·exact g2 (hF1 _ hc)
     ·exact hbF (hG b hc ⟨id, by simp, g1⟩)
    ·rintro c (⟨hc, hn⟩ | ⟨hc, hn⟩ | hc)
     ·exact ⟨rfl, .inr ⟨g3 c hc, fun h2 => hn (hF2 c h2)⟩⟩
     ·exact ⟨rfl, .inr ⟨g3 c (hF1 c hc), hn⟩⟩
     ·exact ⟨rfl, .inl hc⟩
theorem Qir (h : Sim w st ρ φ n a s) {id : Nat} {v : Value} {S : Sh} {u : AV} (hO : s.hp id = .box S u) (hv : RV w st ρ s.hp (.ptr id none []) v) :
  ∃ b arr T, v = .pointer (some ⟨b, 0, none⟩) /\ ρ id = v /\ φ id b /\ w.heap[b]? = some (.cells arr T (0, 0)) /\ Fit s.hp S u /\ RC w st ρ s.hp u arr.toList := by
 obtain ⟨b, of, hpt, e⟩ := Qao hv rfl rfl (by simp)
 obtain ⟨S', s', hS, hr, hs, rfl⟩ := hpt
 rw [Qba] at e
 have e : v = .pointer (some ⟨b, 0, none⟩) := by simpa using e
 have hob := h.ob id
 rw [hO] at hob
 obtain ⟨b', arr, T, h1, h2, h3, h4, h5⟩ := hob
 rw [hr] at h1; cases h1
 exact ⟨b, arr, T, e, by rw [hr, e], h2, h3, h4, h5⟩
theorem Quh (h : Sim w st ρ φ n a s) (hle : Le hp s.hp) {st1 : Blks} {S : Sh} {id : Nat} {u : AV} {v : Value} {x : S.den} {D : List Nat} (hq : hp id = .box S u) (hg : absorb hp S u = some (x, D)) (hnd : (id :: D).Nodup)
  (hv : RV w st ρ s.hp (.ptr id none []) v) : ArgOk w st1 ρ φ hp s.hp (.pO S) (.ptr id none []) v x D (id :: D) := by
 have hO := hle.get hq (by simp)
 obtain ⟨b, arr, T, hb1, hb2, hb3, hb4, hb5, hb6⟩ := Qir h hO hv
 simp only [List.nodup_cons] at hnd
 have hOw := Qcl h hle hg hnd.2 hb6
 have hbD : ¬ ∃ j ∈ D, φ j b := by
  rintro ⟨j, hj, hjb⟩
  have := h.dj id j b hb3 hjb; subst this; exact hnd.1 hj
 refine ⟨fun c => c = b ∨ ∃ j ∈ D, φ j c, ?_, ⟨b, arr, T, fun c => ∃ j ∈ D, φ j c, hb1, .inl rfl, hb4, hOw, hbD, fun c hc => .inr hc⟩, ?_, fun j hj => by simp [hj], fun w' st' oz k k' t nw G hb hz hsame hG hnd' => ?_⟩
 ·rintro c (rfl | ⟨j, hj, hc⟩)
  ·exact ⟨id, by simp, hb3⟩
  ·exact ⟨j, by simp [hj], hc⟩
 ·intro j hj
  rcases List.mem_cons.1 hj with rfl | hj
  ·rw [hO]; simp
  ·have := (Qgy hg j hj).2
   rw [hle j this]; exact this
 ·cases oz with
  | none => simp [backA] at hb
  | some z =>
   simp only [backA] at hb
   cases hi : intro S z k with
   | mk u' r =>
   obtain ⟨l, k2⟩ := r
   rw [hi] at hb
   simp only [Option.some.injEq, Prod.mk.injEq] at hb
   obtain ⟨rfl, rfl, rfl⟩ := hb
   obtain ⟨b', arr', T', F', q1, q2, q3, q4, q5, q6⟩ := hz z rfl
   rw [hb1] at q1; cases q1
   simp only [List.map_append, List.map_cons, List.map_nil, List.singleton_append, List.nodup_cons] at hnd'
   obtain ⟨ρ1, φ1, i1, i2, i3, i4⟩ := Qg3 (st := st') q4 hi hnd'.2
   have hkm : ∀ q ∈ l, q.1 ∈ l.map (·.1) := fun q hq => List.mem_map.2 ⟨q, hq, rfl⟩
   refine ⟨fun j hj => ?_, fun q hq => ?_, Go.Vm.upd ρ1 id (ρ id), fun j c => if j = id then c = b else φ1 j c, ⟨fun j c hc => ?_, fun i j c h1 h2 => ?_, ?_, ?_, ?_⟩, ?_⟩
   ·rcases List.mem_cons.1 hj with rfl | hj
    ·exact .inr (by simp)
    ·exact .inl hj
   ·simp at hq; subst hq
    exact ⟨by simp, by simp only [hO, Tn]⟩
   ·by_cases hj : j = id
    ·simp only [hj, if_true] at hc; subst hc
     exact ⟨.inl q2, by simp [hj]⟩
    ·simp only [hj, if_false] at hc
     have := i1.sup j c hc
     exact ⟨.inl (q6 c this.1), by simp only [List.map_append, List.mem_append]; exact .inr this.2⟩
   ·by_cases hi : i = id <;> by_cases hj : j = id
    ·rw [hi, hj]
    ·simp only [hi, if_true] at h1; simp only [hj, if_false] at h2; subst h1
     exact (q5 (i1.sup j c h2).1).elim
    ·simp only [hj, if_true] at h2; simp only [hi, if_false] at h1; subst h2
     exact (q5 (i1.sup i c h1).1).elim
    ·simp only [hi, hj, if_false] at h1 h2
     exact i1.dj i j c h1 h2
   ·intro q hq
    rcases List.mem_append.1 hq with hq | hq
    ·simp at hq; subst hq; simp
    ·exact i1.nn q hq
   ·intro q hq j hj
    simp only [List.map_append, List.mem_append]
    rcases List.mem_append.1 hq with hq | hq
    ·simp at hq; subst hq
     exact .inr (i2 j hj)
    ·exact .inr (i1.ids q hq j hj)
   ·intro ρ' O h1 h2 q hq
    have hag : ∀ j ∈ l.map (·.1), ρ' j = ρ1 j := fun j hj => by
     rw [h1 j (by simp only [List.map_append, List.mem_append]; exact .inr hj), Qa5 _ _ (fun e : j = id => hnd'.1 (by rw [<- e]; exact hj))]
    have hagO : ∀ q ∈ l, O q.1 = q.2 := fun q hq => h2 q (List.mem_append.2 (.inr hq))
    rcases List.mem_append.1 hq with hq | hq
    ·simp at hq; subst hq
     obtain ⟨f1, f2⟩ := i4 st' ρ' O hag hagO
     refine ⟨b, arr', T', ?_, by simp, q3, f1, f2⟩
     rw [h1 id (by simp), Qa0, hb2, hb1]
    ·refine Qdw (i1.ob ρ' O hag hagO q hq) (fun c => ?_)
     have : q.1 ≠ id := fun e => hnd'.1 (e ▸ hkm q hq)
     simp [this]
   ·intro q hq
    simp at hq; subst hq
    exact Qa0 _ _ _
theorem Qui (h : Sim w st ρ φ n a s) (hle : Le hp s.hp) {st1 : Blks} (hst : ∀ b, st b -> st1 b) {S : Sh} {id : Nat} {v : Value} {x : S.den} (hq : hp id = .box S (.val S x)) (hv : RV w st ρ s.hp (.ptr id none []) v) :
  ArgOk w st1 ρ φ hp s.hp (.pI S) (.ptr id none []) v x [] [id] := by
 have hO := hle.get hq (by simp)
 obtain ⟨b, arr, T, hb1, hb2, hb3, hb4, hb5, hb6⟩ := Qir h hO hv
 refine ⟨fun c => c = b, fun c hc => ⟨id, by simp, hc ▸ hb3⟩, ⟨b, arr, T, hb1, rfl, hb4, Im_up hst hb6⟩, fun j hj => by simp at hj; subst hj; rw [hO]; simp, by simp, fun w' st' oz k k' t nw G hb hz hsame hG hnd => ?_⟩
 cases oz with
 | none => simp [backA] at hb
 | some z =>
  simp only [backA, Option.some.injEq, Prod.mk.injEq] at hb
  obtain ⟨rfl, rfl, rfl⟩ := hb
  obtain ⟨b', arr', T', q1, q2, q3, q4⟩ := hz z rfl
  rw [hb1] at q1; cases q1
  refine ⟨by simp, fun q hq => ?_, fun _ => ρ id, fun j c => j = id /\ c = b, ⟨?_, ?_, by simp, by simp [Ob.ids, AV.ids], ?_⟩, by simp⟩
  ·simp at hq; subst hq
   exact ⟨by simp, by simp only [hO, Tn]⟩
  ·rintro j c ⟨rfl, rfl⟩; exact ⟨.inl q2, by simp⟩
  ·rintro i j b ⟨rfl, _⟩ ⟨rfl, _⟩; rfl
  ·intro ρ' O h1 h2 q hq
   simp at hq; subst hq
   refine ⟨b, arr', T', ?_, ⟨rfl, rfl⟩, q3, Qbb.2 rfl, q4⟩
   rw [h1 id (by simp), hb2, hb1]
theorem Quj {S : Sh} {v : Value} {cs cs' : List Value} (h : VR S v cs) (h' : VR S v cs') : cs = cs' := by
 rcases h with ⟨h1, h2⟩ | ⟨h1, h2⟩ <;> rcases h' with ⟨h3, h4⟩ | ⟨h3, h4⟩
 ·rw [h2] at h4
  simp only [Value.agg.injEq] at h4
  simpa using congrArg Array.toList h4
 ·rw [h1] at h3; cases h3
 ·rw [h1] at h3; cases h3
 ·rw [h2, h4]
theorem Qsv {ρ : Nat -> Value} {l : List Nat} : (fun id => bif mem id l then ρ id else ρ id) = ρ := by
 funext id; cases mem id l <;> rfl
theorem Qsw (h : Sim w st ρ φ n a s) (hle : Le hp s.hp) {w' : World} {st' : Blks} {v : AV} : ∀ {S : Sh} {x z : S.den} {D : List Nat} {cs : List Value} {G : Blks} {t : List (Nat × Ob)}, absorb hp S v = some (x, D) -> D.Nodup -> RC w st ρ s.hp v cs ->
  Ow w' S z cs G -> loanBack S v z = some t -> t.map (·.1) = D /\ (∀ q ∈ t, Tn (s.hp q.1) q.2) /\ ∃ φ1, Lay w' st' G t ρ φ1 := by
 induction v with
 | val t0 y =>
  intro S x z D cs G t ht hn hr ho hl
  obtain ⟨e, hf, he, rfl⟩ := Qck ht
  have : t = [] := by cases S <;> (simp only [loanBack, Option.some.injEq] at hl; exact hl.symm)
  subst this
  exact ⟨rfl, by simp, _, Lay.nil _ _⟩
 | nilv T e =>
  intro S x z D cs G t ht hn hr ho hl
  cases S with
  | sl T' e' =>
   obtain ⟨_, rfl⟩ := Qdf ht
   simp only [loanBack, Option.some.injEq] at hl
   subst hl
   exact ⟨rfl, by simp, _, Lay.nil _ _⟩
  | _ => simp [absorb] at ht
 | sref id ix p =>
  intro S x z D cs G t ht hn hr ho hl
  cases S with
  | sl T e =>
   obtain ⟨rfl, rfl, rfl, hq⟩ := Qcp ht
   simp only [loanBack, Option.some.injEq] at hl
   subst hl
   obtain ⟨_, _, ee, hone⟩ := hr
   subst ee
   have hO := hle.get hq (by simp)
   have hob := h.ob id
   rw [hO] at hob
   have hob : Ow w (.sl T e) x [ρ id] (φ id) := hob
   obtain ⟨A, cap, e1⟩ := Ow_sl hob
   obtain ⟨A', cap', e2⟩ := Ow_sl ho
   have hlen : x.length = z.length := by
    rw [e1] at e2
    simp only [Value.slice.injEq] at e2
    exact e2.2.1
   refine ⟨rfl, fun q hq => ?_, fun j c => j = id /\ G c, ⟨?_, ?_, by simp, by simp [Ob.ids], ?_⟩⟩
   ·simp at hq; subst hq
    simp only [hO, Tn]
    refine ⟨trivial, trivial, ?_⟩
    omega
   ·rintro j c ⟨rfl, hc⟩; exact ⟨hc, by simp⟩
   ·rintro i j b ⟨rfl, _⟩ ⟨rfl, _⟩; rfl
   ·intro ρ' O h1 h2 q hq
    simp at hq; subst hq
    show Ow w' (.sl T e) z [ρ' id] _
    rw [h1 id (by simp)]
    exact Ow_up (fun c hc => ⟨rfl, hc⟩) ho
  | _ => simp [absorb] at ht
 | pair u v ihu ihv =>
  intro S x z D cs G t ht hn hr ho hl
  cases S with
  | pair a b =>
   obtain ⟨y1, y2, l, m, e1, e2, _, rfl⟩ := Qc3 ht
   obtain ⟨c1, c2, rfl, r1, r2⟩ := hr
   obtain ⟨d1, d2, F1, F2, hc, hdis, hF1, hF2, o1, o2⟩ := ho
   have hn' := List.nodup_append.1 hn
   have hlen : c1.length = d1.length := by rw [Qb9 (Qcl h hle e1 hn'.1 r1), Qb9 o1]
   obtain ⟨rfl, rfl⟩ := List.append_inj hc hlen
   simp only [loanBack] at hl
   cases k1 : loanBack a u z.1 with
   | none => rw [k1] at hl; simp at hl
   | some t1 =>
    cases k2 : loanBack b v z.2 with
    | none => rw [k1, k2] at hl; simp at hl
    | some t2 =>
     rw [k1, k2] at hl
     simp only [Option.some.injEq] at hl
     subst hl
     obtain ⟨g1, g2, φ1, g3⟩ := ihu e1 hn'.1 r1 o1 k1
     obtain ⟨q1, q2, φ2, q3⟩ := ihv e2 hn'.2.1 r2 o2 k2
     refine ⟨by rw [List.map_append, g1, q1], fun q hq => ?_, fun id b => φ1 id b ∨ φ2 id b, ?_⟩
     ·rcases List.mem_append.1 hq with hq | hq
      ·exact g2 q hq
      ·exact q2 q hq
     ·have := Lay.both (F := G) g3 q3 hdis hF1 hF2 (fun id h1 h2 => by
       rw [g1] at h1; rw [q1] at h2; exact hn'.2.2 id h1 id h2 rfl)
      rw [Qsv] at this
      exact this
  | _ => simp [absorb] at ht
 | _ => intro S x z D cs G t ht; cases S <;> simp [absorb] at ht
theorem Qsx (h : Sim w st ρ φ n a s) (hle : Le hp s.hp) {st1 : Blks} {S : Sh} {av : AV} {v : Value} {x : S.den} {D : List Nat} (hg : absorb hp S av = some (x, D)) (hnd : D.Nodup) (hv : RV w st ρ s.hp av v) :
  ArgOk w st1 ρ φ hp s.hp (.loan S) av v x [] D := by
 obtain ⟨cs, h1, h2⟩ := Qet hg hv
 refine ⟨fun b => ∃ id ∈ D, φ id b, fun b hb => hb, ⟨cs, h1, Qcl h hle hg hnd h2⟩, fun id hid => ?_, by simp, fun w' st' oz k k' t nw G hb hz hsame hG hn => ?_⟩
 ·have := (Qgy hg id hid).2
  rw [hle id this]; exact this
 ·cases oz with
  | none => simp [backA] at hb
  | some z =>
   simp only [backA] at hb
   cases ht : loanBack S av z with
   | none => rw [ht] at hb; cases hb
   | some t' =>
    rw [ht] at hb; cases hb
    obtain ⟨cs', g1, g2⟩ := hz z rfl
    have hcs : cs' = cs := Quj g1 h1
    subst hcs
    obtain ⟨a1, a2, φ1, a3⟩ := Qsw h hle (st' := st') hg hnd h2 g2 ht
    refine ⟨fun id hid => .inr (by rw [a1]; exact hid), fun q hq => ⟨?_, a2 q hq⟩, ρ, φ1, ?_, fun _ _ => rfl⟩
    ·rw [<- a1]; exact List.mem_map.2 ⟨q, hq, rfl⟩
    ·rw [List.append_nil]; exact a3.up (fun b hb => .inl hb)
theorem Quk (h : Sim w st ρ φ n a s) (hle : Le hp s.hp) {m : Mode} {av : AV} {v : Value} {x : m.inSh.den} {dr wr rd : List Nat} (hg : gatherA hp m av = some (x, dr, wr, rd)) (hnd : wr.Nodup) (hv : RV w st ρ s.hp av v)
  {st1 : Blks} (hst : ∀ b, st b ∨ (∃ id ∈ rd, φ id b) -> st1 b) : ArgOk w st1 ρ φ hp s.hp m av v x dr wr := by
 cases m with
 | imm S =>
  simp only [gatherA] at hg
  cases ht : toVal hp S av with
  | none => rw [ht] at hg; cases hg
  | some y =>
   rw [ht] at hg; cases hg
   obtain ⟨cs, h1, h2⟩ := Qeb ht hv
   exact Qe3 (F := fun _ => False) (fun _ h => h.elim) ⟨cs, h1, Im_up hst (Qcv h hle ht h2)⟩ (by simp) (fun _ _ => rfl)
 | own S =>
  simp only [gatherA] at hg
  cases ht : absorb hp S av with
  | none => rw [ht] at hg; cases hg
  | some y =>
   obtain ⟨y, D⟩ := y
   rw [ht] at hg; cases hg
   exact Qto h hle ht hnd hv
 | loan S =>
  simp only [gatherA] at hg
  cases ht : absorb hp S av with
  | none => rw [ht] at hg; cases hg
  | some y =>
   obtain ⟨y, D⟩ := y
   rw [ht] at hg; cases hg
   exact Qsx h hle ht hnd hv
 | lend T e =>
  cases av with
  | nilv T' e' =>
   simp only [gatherA] at hg
   split at hg
   ·rename_i hee
    cases hg
    obtain ⟨A, ee⟩ := Qao hv rfl rfl (by simp)
    have ee : v = .slice A 0 0 := by simpa using ee
    subst ee
    refine ⟨fun _ => False, fun _ h => h.elim, .inl ⟨rfl, A, rfl⟩, by simp, by simp, fun w' st' oz k k' t nw G hb hz hsame hG hnd => ?_⟩
    cases oz with
    | none => simp [backA] at hb
    | some z =>
     simp only [backA, Option.some.injEq, Prod.mk.injEq] at hb
     obtain ⟨rfl, rfl, rfl⟩ := hb
     exact ⟨by simp, by simp, fun _ => undef, _, Lay.nil _ _, by simp⟩
   ·cases hg
  | sref id ix p =>
   cases ix with
   | none =>
    cases p with
    | cons _ _ => simp [gatherA] at hg
    | nil =>
     simp only [gatherA] at hg
     cases hq : hp id with
     | arr T' e' xs =>
      rw [hq] at hg; simp only at hg
      cases hc : cst (.sl T' e') (.sl T e) xs with
      | none => rw [hc] at hg; cases hg
      | some y =>
       rw [hc] at hg; cases hg
       obtain ⟨ee, he⟩ := Qbl hc
       cases ee; cases he
       exact Qst h hle hq hv
     | _ => rw [hq] at hg; cases hg
   | some i =>
    simp only [gatherA] at hg
    cases hq : hp id with
    | arr T' e' xs =>
     rw [hq] at hg; simp only at hg
     cases hgt : getT e' (rdL xs i) p with
     | none => rw [hgt] at hg; cases hg
     | some q =>
      obtain ⟨sh, y⟩ := q
      rw [hgt] at hg; simp only at hg
      cases hc : cst sh (.sl T e) y with
      | none => rw [hc] at hg; cases hg
      | some z =>
       rw [hc] at hg; cases hg
       obtain ⟨ee, he⟩ := Qbl hc
       subst ee; cases he
       exact Qsu h hle hq hgt hv
    | _ => rw [hq] at hg; cases hg
  | _ => simp [gatherA] at hg
 | pO S =>
  cases av with
  | ptr id ix p =>
   cases ix with
   | some _ => simp [gatherA] at hg
   | none =>
    cases p with
    | cons _ _ => simp [gatherA] at hg
    | nil =>
     simp only [gatherA] at hg
     cases hq : hp id with
     | box S' u =>
      rw [hq] at hg; simp only at hg
      split at hg
      ·rename_i hS
       subst hS
       cases ht : absorb hp S' u with
       | none => rw [ht] at hg; cases hg
       | some y =>
        obtain ⟨y, D⟩ := y
        rw [ht] at hg; cases hg
        exact Quh h hle hq ht hnd hv
      ·cases hg
     | _ => rw [hq] at hg; cases hg
  | _ => simp [gatherA] at hg
 | pI S =>
  cases av with
  | ptr id ix p =>
   cases ix with
   | some _ => simp [gatherA] at hg
   | none =>
    cases p with
    | cons _ _ => simp [gatherA] at hg
    | nil =>
     simp only [gatherA] at hg
     cases hq : hp id with
     | box S' u =>
      rw [hq] at hg
      cases u with
      | val sv xv =>
       simp only at hg
       split at hg
       ·rename_i hS
        subst hS
        cases hc : cst sv S' xv with
        | none => rw [hc] at hg; cases hg
        | some y =>
         rw [hc] at hg; cases hg
         obtain ⟨ee, he⟩ := Qbl hc
         subst ee; cases he
         exact Qui h hle (fun b hb => hst b (.inl hb)) hq hv
       ·cases hg
      | _ => simp at hg
     | _ => rw [hq] at hg; cases hg
  | _ => simp [gatherA] at hg
 | pR S =>
  cases av with
  | ptr id ix p =>
   cases ix with
   | some _ => simp [gatherA] at hg
   | none =>
    cases p with
    | cons _ _ => simp [gatherA] at hg
    | nil =>
     simp only [gatherA] at hg
     cases hq : capsVal hp [S] [id] with
     | none => rw [hq] at hg; cases hg
     | some y =>
      rw [hq] at hg; cases hg
      obtain ⟨b, of, hpt, e⟩ := Qao hv rfl rfl (by simp)
      obtain ⟨S', s', hS, hr, hs, rfl⟩ := hpt
      rw [Qba] at e
      have e : v = .pointer (some ⟨b, 0, none⟩) := by simpa using e
      obtain ⟨b', arr, T, fz, vs', q1, q2, q3, q4, _⟩ := Qg4 h hle (st1 := st1) hq (fun c hc => hst c (by simpa using hc))
      simp only [List.map_cons, List.map_nil, List.cons.injEq] at q1
      refine Qe3 (F := fun _ => False) (fun _ h => h.elim) ⟨b', arr, T, fz, ?_, q2, q3, q4⟩ (by simp) (fun _ _ => rfl)
      rw [<- q1.1, hr, e]
  | _ => simp [gatherA] at hg
 | clo f ss =>
  cases av with
  | fn f' caps =>
   simp only [gatherA] at hg
   cases hf : Nat.beq f f' <;> rw [hf] at hg
   ·cases hg
   simp only [cond_true] at hg
   have hff := Nat.eq_of_beq_eq_true hf
   subst hff
   cases hq : capsVal hp ss caps with
   | none => rw [hq] at hg; cases hg
   | some y =>
    rw [hq] at hg; cases hg
    have e : [v] = [.func (.func f) #[] (caps.map ρ).toArray] := Qao hv rfl rfl (by simp)
    have e : v = .func (.func f) #[] (caps.map ρ).toArray := by simpa using e
    exact Qe3 (F := fun _ => False) (fun _ h => h.elim) ⟨caps.map ρ, e, Qg4 h hle hq hst⟩ (by simp) (fun _ _ => rfl)
  | _ => simp [gatherA] at hg
end
end Go.Vm

set_option linter.unusedVariables false
set_option linter.unusedSimpArgs false
namespace Go.Vm
inductive All2 {α β : Type} (R : α -> β -> Prop) : List α -> List β -> Prop where
 | nil : All2 R [] []
 | cons {x : α} {y : β} {xs : List α} {ys : List β} : R x y -> All2 R xs ys -> All2 R (x :: xs) (y :: ys)
theorem Qqz {t1 t2 n1 n2 : List (Nat × Ob)} (h : (((t1 ++ t2) ++ (n1 ++ n2)).map (·.1)).Nodup) :
  ((t1 ++ n1).map (·.1)).Nodup /\ ((t2 ++ n2).map (·.1)).Nodup /\ ∀ id, id ∈ (t1 ++ n1).map (·.1) -> id ∉ (t2 ++ n2).map (·.1) := by
 have hp : List.Perm (((t1 ++ t2) ++ (n1 ++ n2)).map (·.1)) (((t1 ++ n1) ++ (t2 ++ n2)).map (·.1)) := by
  refine List.Perm.map _ ?_
  rw [List.append_assoc, List.append_assoc]
  refine List.Perm.append_left t1 ?_
  rw [<- List.append_assoc, <- List.append_assoc]
  exact (List.perm_append_comm).append_right n2
 have h := hp.nodup h
 rw [List.map_append] at h
 have h' := List.nodup_append.1 h
 exact ⟨h'.1, h'.2.1, fun id h1 h2 => h'.2.2 id h1 id h2 rfl⟩
section
variable {P : Program} {X : Ctx} {w : World} {st : Blks} {ρ : Nat -> Value} {φ : Nat -> Blks} {n : Nat} {a : Act} {s : St} {o : Oper} {hp : Nat -> Ob}
def ArgV (w : World) (st : Blks) (ρ : Nat -> Value) (O : Nat -> Ob) (av : AV) (v : Value) : Prop := RV w st ρ O av v ∨ ∃ id, av = .ptr id none [] /\ v = ρ id
theorem Qtp (h : Sim w st ρ φ n a s) (hle : Le hp s.hp) {m : Mode} {av : AV} {v : Value} {q : m.inSh.den × List Nat × List Nat × List Nat} (hg : gatherA hp m av = some q) (hv : ArgV w st ρ s.hp av v) : RV w st ρ s.hp av v := by
 rcases hv with hv | ⟨id, rfl, rfl⟩
 ·exact hv
 have key : ∀ o, hp id = o -> ((∃ S u, o = .box S u) ∨ ∃ S x, o = .cbox S x) -> RV w st ρ s.hp (.ptr id none []) (ρ id) := by
  rintro o hq (⟨S, u, rfl⟩ | ⟨S, x, rfl⟩)
  ·have hO := hle.get hq (by simp)
   have hob := h.ob id
   rw [hO] at hob
   obtain ⟨b, arr, T, h1, h2, h3, h4, h5⟩ := hob
   exact Qa1 (av := .ptr id none []) ⟨b, 0, ⟨S, S, .inl ⟨u, hO⟩, h1, Qbc _, (Qba S).symm⟩, by rw [h1]⟩ rfl rfl
  ·have hO := hle.get hq (by simp)
   have hob := h.ob id
   rw [hO] at hob
   obtain ⟨b, arr, T, fz, h1, h2, h3, h4, h5⟩ := hob
   exact Qa1 (av := .ptr id none []) ⟨b, 0, ⟨S, S, .inr ⟨x, hO⟩, h1, Qbc _, (Qba S).symm⟩, by rw [h1]⟩ rfl rfl
 cases m with
 | imm S =>
  simp only [gatherA] at hg
  cases S <;> simp [toVal] at hg
 | own S =>
  simp only [gatherA] at hg
  cases S <;> simp [absorb] at hg
 | loan S =>
  simp only [gatherA] at hg
  cases S <;> simp [absorb] at hg
 | lend T e => simp [gatherA] at hg
 | pO S =>
  simp only [gatherA] at hg
  cases hq : hp id with
  | box S' u => exact key _ hq (.inl ⟨_, _, rfl⟩)
  | _ => rw [hq] at hg; cases hg
 | pI S =>
  simp only [gatherA] at hg
  cases hq : hp id with
  | box S' u => exact key _ hq (.inl ⟨_, _, rfl⟩)
  | _ => rw [hq] at hg; simp at hg
 | pR S =>
  simp only [gatherA] at hg
  cases hc : capsVal hp [S] [id] with
  | none => rw [hc] at hg; cases hg
  | some y =>
   simp only [capsVal] at hc
   cases hq : hp id with
   | box S' u => exact key _ hq (.inl ⟨_, _, rfl⟩)
   | cbox S' u => exact key _ hq (.inr ⟨_, _, rfl⟩)
   | _ => rw [hq] at hc; simp at hc
 | clo f ss => simp [gatherA] at hg
def ArgsOk (w : World) (st1 : Blks) (ρ : Nat -> Value) (φ : Nat -> Blks) (hp O : Nat -> Ob) (ms : List Mode) (as : List AV) (vals : List Value) (x : (insSh ms).den) (dr wr : List Nat) : Prop :=
 ∃ L : Blks, (∀ b, L b -> ∃ id ∈ wr, φ id b) /\ ArgsR w st1 ms x vals L /\ (∀ id ∈ wr, O id ≠ .none) /\ (∀ id ∈ dr, id ∈ wr) /\
  ∀ (w' : World) (st' : Blks) (y : (backSh ms).den) (k : Nat) (t nw : List (Nat × Ob)) (G : Blks), backAV hp ms as y k = some (t, nw) -> BackR w' st' ms y vals G ->
   (∀ b, (∃ id ∈ wr, φ id b) -> ¬ L b -> w'.heap[b]? = w.heap[b]?) -> (∀ b, G b -> (∃ id ∈ wr, φ id b) -> L b) -> ((t ++ nw).map (·.1)).Nodup ->
   (∀ id ∈ wr, id ∈ dr ∨ id ∈ t.map (·.1)) /\ (∀ q ∈ t, q.1 ∈ wr /\ Tn (O q.1) q.2) /\
   ∃ ρ1 φ1, Lay w' st' (fun b => G b ∨ ((∃ id ∈ wr, φ id b) /\ ¬ L b)) (t ++ nw) ρ1 φ1 /\ ∀ q ∈ t, ρ1 q.1 = ρ q.1
theorem Qlq (h : Sim w st ρ φ n a s) (hle : Le hp s.hp) : ∀ {ms : List Mode} {as : List AV} {vals : List Value} {x : (insSh ms).den} {dr wr rd : List Nat}, gather hp ms as = some (x, dr, wr, rd) -> wr.Nodup -> All2 (ArgV w st ρ s.hp) as vals ->
  ∀ {st1 : Blks}, (∀ b, st b ∨ (∃ id ∈ rd, φ id b) -> st1 b) -> ArgsOk w st1 ρ φ hp s.hp ms as vals x dr wr
 | [], [], vals, x, dr, wr, rd, hg, hnd, hv, st1, hst => by
  cases hg; cases hv
  refine ⟨fun _ => False, fun _ h => h.elim, rfl, by simp, by simp, fun w' st' y k t nw G hb hz hsame hG hnd => ?_⟩
  cases hb
  exact ⟨by simp, by simp, fun _ => undef, _, Lay.nil _ _, by simp⟩
 | [], _ :: _, vals, x, dr, wr, rd, hg, hnd, hv, st1, hst => by simp [gather] at hg
 | _ :: _, [], vals, x, dr, wr, rd, hg, hnd, hv, st1, hst => by simp [gather] at hg
 | m :: ms, av :: as, vals, x, dr, wr, rd, hg, hnd, hv, st1, hst => by
  simp only [gather] at hg
  cases h1 : gatherA hp m av with
  | none => rw [h1] at hg; simp at hg
  | some p1 =>
   obtain ⟨x1, d1, w1, r1⟩ := p1
   cases h2 : gather hp ms as with
   | none => rw [h1, h2] at hg; simp at hg
   | some p2 =>
    obtain ⟨x2, d2, w2, r2⟩ := p2
    rw [h1, h2] at hg
    simp only [Option.some.injEq, Prod.mk.injEq] at hg
    obtain ⟨rfl, rfl, rfl, rfl⟩ := hg
    have hnd' := List.nodup_append.1 hnd
    cases hv with
    | @cons _ v _ vs hv1 hv2 =>
    obtain ⟨F1, f1, f2, f3, f4, f5⟩ := Quk h hle h1 hnd'.1 (Qtp h hle h1 hv1) (st1 := st1) (fun b hb => hst b (hb.imp id (fun ⟨j, hj, hb⟩ => ⟨j, by simp [hj], hb⟩)))
    obtain ⟨L2, g1, g2, g3, g4, g5⟩ := Qlq h hle h2 hnd'.2.1 hv2 (st1 := st1) (fun b hb => hst b (hb.imp id (fun ⟨j, hj, hb⟩ => ⟨j, by simp [hj], hb⟩)))
    have hap : ∀ b, (∃ j ∈ w1, φ j b) -> (∃ j ∈ w2, φ j b) -> False := by
     rintro b ⟨i, hi, hib⟩ ⟨j, hj, hjb⟩
     have := h.dj i j b hib hjb; subst this
     exact hnd'.2.2 i hi i hj rfl
    refine ⟨fun b => F1 b ∨ L2 b, ?_, ⟨v, vs, F1, L2, rfl, fun b hb1 hb2 => hap b (f1 b hb1) (g1 b hb2), fun b hb => .inl hb, fun b hb => .inr hb, f2, g2⟩, ?_, ?_, fun w' st' y k t nw G hb hz hsame hG hndk => ?_⟩
    ·rintro b (hb | hb)
     ·obtain ⟨j, hj, hb⟩ := f1 b hb; exact ⟨j, by simp [hj], hb⟩
     ·obtain ⟨j, hj, hb⟩ := g1 b hb; exact ⟨j, by simp [hj], hb⟩
    ·intro j hj
     rcases List.mem_append.1 hj with hj | hj
     ·exact f3 j hj
     ·exact g3 j hj
    ·intro j hj
     rw [List.mem_append]
     rcases List.mem_append.1 hj with hj | hj
     ·exact .inl (f4 j hj)
     ·exact .inr (g4 j hj)
    ·obtain ⟨v', r', G1, G2, e, z1, z2, z3, z4, z5⟩ := hz
     cases e
     simp only [backAV] at hb
     generalize hsp : splitB m ms y = sp at hb z4 z5
     obtain ⟨oz, y'⟩ := sp
     simp only at hb z4 z5
     cases hb1 : backA hp m av oz k with
     | none => rw [hb1] at hb; cases hb
     | some p =>
      obtain ⟨t1, n1, k1⟩ := p
      rw [hb1] at hb; simp only at hb
      cases hb2 : backAV hp ms as y' k1 with
      | none => rw [hb2] at hb; cases hb
      | some q =>
       obtain ⟨t2, n2⟩ := q
       rw [hb2] at hb
       simp only [Option.some.injEq, Prod.mk.injEq] at hb
       obtain ⟨rfl, rfl⟩ := hb
       obtain ⟨k1', k2', k3'⟩ := Qqz hndk
       have hL1 : ∀ b, (∃ j ∈ w1, φ j b) -> F1 b ∨ L2 b -> F1 b := fun b hb hL => hL.elim id (fun hL => (hap b hb (g1 b hL)).elim)
       have hL2 : ∀ b, (∃ j ∈ w2, φ j b) -> F1 b ∨ L2 b -> L2 b := fun b hb hL => hL.elim (fun hL => (hap b (f1 b hL) hb).elim) id
       have up1 : ∀ b, (∃ j ∈ w1, φ j b) -> ∃ j ∈ w1 ++ w2, φ j b := fun b ⟨j, hj, hb⟩ => ⟨j, by simp [hj], hb⟩
       have up2 : ∀ b, (∃ j ∈ w2, φ j b) -> ∃ j ∈ w1 ++ w2, φ j b := fun b ⟨j, hj, hb⟩ => ⟨j, by simp [hj], hb⟩
       obtain ⟨a1, a2, ρ1, φ1, a3, a4⟩ := f5 w' st' oz k k1 t1 n1 G1 hb1 z4 (fun b hb hF => hsame b (up1 b hb) (fun hL => hF (hL1 b hb hL))) (fun b hb hb' => hL1 b hb' (hG b (z2 b hb) (up1 b hb'))) k1'
       obtain ⟨b1, b2, ρ2, φ2, b3, b4⟩ := g5 w' st' y' k1 t2 n2 G2 hb2 z5 (fun b hb hF => hsame b (up2 b hb) (fun hL => hF (hL2 b hb hL))) (fun b hb hb' => hL2 b hb' (hG b (z3 b hb) (up2 b hb'))) k2'
       refine ⟨fun j hj => ?_, fun q hq => ?_, _, _, (Lay.both (F := fun b => G b ∨ ((∃ id ∈ w1 ++ w2, φ id b) /\ ¬ (F1 b ∨ L2 b))) a3 b3 ?_ ?_ ?_ k3').set (fun q => ?_), fun q hq => ?_⟩
       ·simp only [List.map_append, List.mem_append]
        rcases List.mem_append.1 hj with hj | hj
        ·exact (a1 j hj).imp .inl .inl
        ·exact (b1 j hj).imp .inr .inr
       ·rcases List.mem_append.1 hq with hq | hq
        ·exact ⟨by simp [(a2 q hq).1], (a2 q hq).2⟩
        ·exact ⟨by simp [(b2 q hq).1], (b2 q hq).2⟩
       ·rintro b (hb | ⟨hb, hn⟩) (hb' | ⟨hb', hn'⟩)
        ·exact z1 b hb hb'
        ·exact (hG b (z2 b hb) (up2 b hb')).elim (fun hL => hap b (f1 b hL) hb') hn'
        ·exact (hG b (z3 b hb') (up1 b hb)).elim hn (fun hL => hap b hb (g1 b hL))
        ·exact hap b hb hb'
       ·rintro b (hb | ⟨hb, hn⟩)
        ·exact .inl (z2 b hb)
        ·exact .inr ⟨up1 b hb, fun hL => hn (hL1 b hb hL)⟩
       ·rintro b (hb | ⟨hb, hn⟩)
        ·exact .inl (z3 b hb)
        ·exact .inr ⟨up2 b hb, fun hL => hn (hL2 b hb hL)⟩
       ·simp only [List.mem_append]
        constructor <;> rintro ((h | h) | (h | h)) <;> simp [h]
       ·rcases List.mem_append.1 hq with hq | hq
        ·have hm : q.1 ∈ (t1 ++ n1).map (·.1) := List.mem_map.2 ⟨q, by simp [hq], rfl⟩
         rw [Qav.2 hm]; exact a4 q hq
        ·have hm : q.1 ∈ (t2 ++ n2).map (·.1) := List.mem_map.2 ⟨q, by simp [hq], rfl⟩
         rw [Qaq.2 (fun h => k3' q.1 h hm)]; exact b4 q hq
theorem Qla {w' : World} {st' : Blks} {S : Sh} {x : S.den} {cs : List Value} (hf : S.flat = true) (h : Im w st S x cs) : Im w' st' S x cs :=
 Ow_Im (F := fun _ => False) (fun _ h => h.elim) (Im_Ow hf h)
theorem Qke {st' : Blks} : ∀ {ms : List Mode} {y : (backSh ms).den} {vals : List Value} {G : Blks}, immBack ms = false -> BackR w st ms y vals G -> BackR w st' ms y vals G
 | [], _, _, _, _, _ => trivial
 | m :: ms, y, vals, G, hi, ⟨v, r, F1, F2, h1, h2, h3, h4, h5, h6⟩ => by
  have hi' : immBack ms = false /\ ∀ S, m = .pI S -> S.flat = true := by
   cases m <;> simp [immBack] at hi ⊢ <;> first | exact hi | exact ⟨hi.2, hi.1⟩
  refine ⟨v, r, F1, F2, h1, h2, h3, h4, fun z hz => ?_, Qke hi'.1 h6⟩
  have := h5 z hz
  cases m with
  | imm S => cases hz
  | own S => cases hz
  | pR S => cases hz
  | clo f ss => cases hz
  | lend T e => exact this
  | loan S => exact this
  | pO S => exact this
  | pI S =>
   obtain ⟨b, arr, T, q1, q2, q3, q4⟩ := this
   exact ⟨b, arr, T, q1, q2, q3, Qla (hi'.2 S rfl) q4⟩
theorem Qf6 {st' : Blks} : ∀ {rs : List (RK × Sh)} {ms : List Mode} {y : (outSh rs ms).den} {us vals : List Value} {G : Blks}, immRes rs = false -> immBack ms = false -> ResR w st rs ms y us vals G -> ResR w st' rs ms y us vals G
 | [], ms, y, us, vals, G, _, hb, ⟨h1, h2⟩ => ⟨h1, Qke hb h2⟩
 | (.new, S) :: rs, ms, y, us, vals, G, hr, hb, ⟨u, r, F1, F2, h1, h2, h3, h4, ⟨b, arr, T, q1, q2, q3, q4⟩, h7⟩ => by
  simp [immRes] at hr
  exact ⟨u, r, F1, F2, h1, h2, h3, h4, ⟨b, arr, T, q1, q2, q3, Qla hr.1 q4⟩, Qf6 hr.2 hb h7⟩
 | (.own, S) :: rs, ms, y, us, vals, G, hr, hb, ⟨u, r, F1, F2, cs, h1, h2, h3, h4, h5, h6, h7⟩ =>
  ⟨u, r, F1, F2, cs, h1, h2, h3, h4, h5, h6, Qf6 (by simpa [immRes] using hr) hb h7⟩
 | (.imm, S) :: rs, ms, y, us, vals, G, hr, hb, ⟨u, r, cs, h1, h2, h3, h4⟩ => by
  simp [immRes] at hr
  exact ⟨u, r, cs, h1, h2, Qla hr.1 h3, Qf6 hr.2 hb h4⟩
theorem Quy {O : Nat -> Ob} {S : Sh} {av : AV} {v : Value} {cs : List Value} (hf : Fit O S av) (h : RC w st ρ O av cs) (hv : VR S v cs) : RV1 w st ρ O av v := Qf3 hf h hv
theorem Qq0 : ∀ {S : Sh} {x : S.den} {k k' : Nat} {v : AV} {l : List (Nat × Ob)}, intro S x k = (v, l, k') -> v.isTup = false
 | .int _, _, _, _, _, _, e => by cases e; rfl
 | .bool, _, _, _, _, _, e => by cases e; rfl
 | .str, _, _, _, _, _, e => by cases e; rfl
 | .unit, _, _, _, _, _, e => by cases e; rfl
 | .sl _ _, _, _, _, _, _, e => by cases e; rfl
 | .pair a b, x, k, k', v, l, e => by
  simp only [intro] at e
  cases e1 : intro a x.1 k with
  | mk u p =>
  obtain ⟨l1, k1⟩ := p
  cases e2 : intro b x.2 k1 with
  | mk v2 p =>
  obtain ⟨l2, k2⟩ := p
  rw [e1] at e; simp only at e
  rw [e2] at e; simp only [Prod.mk.injEq] at e
  obtain ⟨rfl, _⟩ := e
  cases u <;> cases v2 <;> rfl
theorem Qkf : ∀ {rs : List (RK × Sh)} {ms : List Mode} {y : (outSh rs ms).den} {us vals : List Value} {G : Blks} {k k' : Nat} {vs : List AV} {l : List (Nat × Ob)} {b : (backSh ms).den}, ResR w st rs ms y us vals G -> resAV rs ms y k = (vs, l, k', b) -> (l.map (·.1)).Nodup ->
  ∃ G1 G2 ρ1 φ1, (∀ b, G1 b -> G2 b -> False) /\ (∀ b, G1 b -> G b) /\ (∀ b, G2 b -> G b) /\ BackR w st ms b vals G2 /\ Lay w st G1 l ρ1 φ1 /\ (∀ av ∈ vs, av.isTup = false /\ ∀ id ∈ av.ids, id ∈ l.map (·.1)) /\
   ∀ (ρ : Nat -> Value) (O : Nat -> Ob), (∀ id ∈ l.map (·.1), ρ id = ρ1 id) -> (∀ q ∈ l, O q.1 = q.2) -> All2 (RV1 w st ρ O) vs us
 | [], ms, y, us, vals, G, k, k', vs, l, b, ⟨h1, h2⟩, e, hn => by
  cases e; subst h1
  exact ⟨fun _ => False, G, fun _ => undef, _, fun _ h _ => h, fun _ h => h.elim, fun _ h => h, h2, Lay.nil _ _, by simp, fun _ _ _ _ => .nil⟩
 | (.new, S) :: rs, ms, y, us, vals, G, k, k', vs, l, b, ⟨u, r, F1, F2, h1, h2, h3, h4, ⟨b0, arr, T, p1, p2, p3, p4⟩, h7⟩, e, hn => by
  simp only [resAV] at e
  cases e2 : resAV rs ms y.2 (k + 10000) with
  | mk vs2 p =>
  obtain ⟨l2, k2, b2⟩ := p
  rw [e2] at e
  simp only [Prod.mk.injEq] at e
  obtain ⟨rfl, rfl, rfl, rfl⟩ := e
  subst h1
  simp only [List.map_cons, List.nodup_cons] at hn
  obtain ⟨G1, G2, ρ2, φ2, j1, j2, j3, j4, j5, j6, j7⟩ := Qkf h7 e2 hn.2
  have i1 : Lay w st F1 [(k, Ob.box S (.val S y.1))] (fun _ => u) (fun j c => j = k /\ c = b0) := by
   refine ⟨?_, ?_, by simp, by simp [Ob.ids, AV.ids], ?_⟩
   ·rintro j c ⟨rfl, rfl⟩; exact ⟨p2, by simp⟩
   ·rintro i j b ⟨rfl, _⟩ ⟨rfl, _⟩; rfl
   ·intro ρ' O h1 h2 q hq
    simp at hq; subst hq
    exact ⟨b0, arr, T, by rw [h1 k (by simp), p1], ⟨rfl, rfl⟩, p3, Qbb.2 rfl, p4⟩
  have hk : ∀ id, id ∈ [(k, Ob.box S (.val S y.1))].map (·.1) -> id ∉ l2.map (·.1) := fun id h1 h2 => by
   simp at h1; subst h1; exact hn.1 h2
  refine ⟨fun b => F1 b ∨ G1 b, G2, _, _, ?_, ?_, fun b hb => h4 b (j3 b hb), j4, Lay.both (F := fun b => F1 b ∨ G1 b) i1 j5 (fun b hb hb' => h2 b hb (j2 b hb')) (fun _ h => .inl h) (fun _ h => .inr h) hk, ?_, fun ρ O g1 g2 => ?_⟩
  ·rintro b (hb | hb) hb'
   ·exact h2 b hb (j3 b hb')
   ·exact j1 b hb hb'
  ·rintro b (hb | hb)
   ·exact h3 b hb
   ·exact h4 b (j2 b hb)
  ·intro av hav
   rcases List.mem_cons.1 hav with rfl | hav
   ·exact ⟨rfl, by simp [AV.ids]⟩
   ·refine ⟨(j6 av hav).1, fun id hid => ?_⟩
    simp only [List.map_cons, List.mem_cons]
    exact .inr ((j6 av hav).2 id hid)
  ·have hr : ρ k = u := by
    rw [g1 k (by simp)]
    have : mem k ([(k, Ob.box S (.val S y.1))].map (·.1)) = true := Qav.2 (by simp)
    rw [this]; rfl
   refine .cons (.inr (.inr ⟨rfl, b0, 0, ⟨S, S, .inl ⟨_, g2 (k, .box S (.val S y.1)) (by simp)⟩, by rw [hr, p1], Qbc _, (Qba S).symm⟩, by rw [p1]⟩)) (j7 ρ O (fun id hid => ?_) (fun q hq => g2 q (by simp [hq])))
   rw [g1 id (by simp only [List.map_cons, List.mem_cons]; exact .inr hid), Qaq.2 (fun h => hk id h hid)]; rfl
 | (.own, S) :: rs, ms, y, us, vals, G, k, k', vs, l, b, ⟨u, r, F1, F2, cs, h1, h2, h3, h4, h5, h6, h7⟩, e, hn => by
  simp only [resAV] at e
  cases e1 : intro S y.1 k with
  | mk v p =>
  obtain ⟨l1, k1⟩ := p
  rw [e1] at e; simp only at e
  cases e2 : resAV rs ms y.2 k1 with
  | mk vs2 p =>
  obtain ⟨l2, k2, b2⟩ := p
  rw [e2] at e
  simp only [Prod.mk.injEq] at e
  obtain ⟨rfl, rfl, rfl, rfl⟩ := e
  subst h1
  rw [List.map_append] at hn
  have hn' := List.nodup_append.1 hn
  obtain ⟨ρ1, φ1, i1, i2, i3, i4⟩ := Qg3 (st := st) h6 e1 hn'.1
  obtain ⟨G1, G2, ρ2, φ2, j1, j2, j3, j4, j5, j6, j7⟩ := Qkf h7 e2 hn'.2.1
  have hk : ∀ id, id ∈ l1.map (·.1) -> id ∉ l2.map (·.1) := fun id h1 h2 => hn'.2.2 id h1 id h2 rfl
  refine ⟨fun b => F1 b ∨ G1 b, G2, _, _, ?_, ?_, fun b hb => h4 b (j3 b hb), j4, Lay.both (F := fun b => F1 b ∨ G1 b) i1 j5 (fun b hb hb' => h2 b hb (j2 b hb')) (fun _ h => .inl h) (fun _ h => .inr h) hk, ?_, fun ρ O g1 g2 => ?_⟩
  ·rintro b (hb | hb) hb'
   ·exact h2 b hb (j3 b hb')
   ·exact j1 b hb hb'
  ·rintro b (hb | hb)
   ·exact h3 b hb
   ·exact h4 b (j2 b hb)
  ·intro av hav
   rw [List.map_append]; simp only [List.mem_append]
   rcases List.mem_cons.1 hav with rfl | hav
   ·exact ⟨Qq0 e1, fun id hid => .inl (i2 id hid)⟩
   ·exact ⟨(j6 av hav).1, fun id hid => .inr ((j6 av hav).2 id hid)⟩
  ·have w1 := i4 st ρ O (fun id hid => by
    rw [g1 id (by rw [List.map_append, List.mem_append]; exact .inl hid), Qav.2 hid]; rfl) (fun q hq => g2 q (by simp [hq]))
   exact .cons (Qf3 w1.1 w1.2 h5) (j7 ρ O (fun id hid => by
    rw [g1 id (by rw [List.map_append, List.mem_append]; exact .inr hid), Qaq.2 (fun h => hk id h hid)]; rfl) (fun q hq => g2 q (by simp [hq])))
 | (.imm, S) :: rs, ms, y, us, vals, G, k, k', vs, l, b, ⟨u, r, cs, h1, h2, h3, h4⟩, e, hn => by
  simp only [resAV] at e
  cases e2 : resAV rs ms y.2 k with
  | mk vs2 p =>
  obtain ⟨l2, k2, b2⟩ := p
  rw [e2] at e
  simp only [Prod.mk.injEq] at e
  obtain ⟨rfl, rfl, rfl, rfl⟩ := e
  subst h1
  obtain ⟨G1, G2, ρ2, φ2, j1, j2, j3, j4, j5, j6, j7⟩ := Qkf h4 e2 hn
  refine ⟨G1, G2, ρ2, φ2, j1, j2, j3, j4, j5, ?_, fun ρ O g1 g2 => .cons (Qf3 (S := S) (Qbb.2 rfl) h3 h2) (j7 ρ O g1 g2)⟩
  intro av hav
  rcases List.mem_cons.1 hav with rfl | hav
  ·exact ⟨rfl, fun id hid => by simp [AV.ids] at hid⟩
  ·exact j6 av hav
end
end Go.Vm

set_option linter.unusedVariables false
set_option linter.unusedSimpArgs false
namespace Go.Vm
section
variable {P : Program} {X : Ctx} {w : World} {st : Blks} {ρ : Nat -> Value} {φ : Nat -> Blks} {n : Nat} {a : Act} {s : St} {o : Oper} {hp : Nat -> Ob}
theorem Qlr {O : Nat -> Ob} : ∀ {vs : List AV} {us : List Value}, All2 (RV1 w st ρ O) vs us -> RT w st ρ O (tupAV vs) us
 | [], _, .nil => rfl
 | _ :: _, _, .cons h1 h2 => ⟨_, _, rfl, h1, Qlr h2⟩
theorem Qul {O : Nat -> Ob} {vs : List AV} {us : List Value} (h : All2 (RV1 w st ρ O) vs us) (ht : ∀ av ∈ vs, av.isTup = false) : RV w st ρ O (resultAV vs) (retV us) := by
 cases h with
 | nil => exact .inl ⟨rfl, [].toArray, rfl, rfl⟩
 | @cons x y xs ys h1 h2 =>
  cases h2 with
  | nil => exact .inr ⟨ht x (by simp), h1⟩
  | @cons x' y' xs' ys' h3 h4 =>
   refine .inl ⟨rfl, _, rfl, ?_⟩
   exact Qlr (.cons h1 (.cons h3 h4))
theorem Qlb : ∀ {vs : List AV} {id : Nat}, id ∈ (tupAV vs).ids -> ∃ av ∈ vs, id ∈ av.ids
 | [], id, h => by simp [tupAV, AV.ids] at h
 | v :: vs, id, h => by
  simp only [tupAV, AV.ids, List.mem_append] at h
  rcases h with h | h
  ·exact ⟨v, by simp, h⟩
  ·obtain ⟨u, hu, h⟩ := Qlb h; exact ⟨u, by simp [hu], h⟩
theorem Qpj {vs : List AV} {id : Nat} (h : id ∈ (resultAV vs).ids) : ∃ av ∈ vs, id ∈ av.ids := by
 match vs, h with
 | [], h => exact Qlb h
 | [v], h => exact ⟨v, by simp, h⟩
 | v :: u :: r, h => exact Qlb h
theorem Qeu {l : List Nat} : ∀ {up : List (Nat × Ob)} {q : Nat × Ob}, newOk s l up = true -> q ∈ up -> (s.hp q.1 = .none -> q.1 % 10000 < 5000) /\ (s.hp q.1 ≠ .none -> q.1 ∈ l)
 | u :: r, q, h, hq => by
  have h1 : (bif (s.hp u.1).isNone then Nat.blt (u.1 % 10000) 5000 else mem u.1 l) = true /\ newOk s l r = true := by
   simpa only [newOk, Bool.and_eq_true] using h
  rcases List.mem_cons.1 hq with e | hq
  ·rw [e]
   have h2 := h1.1
   constructor
   ·intro hn
    rw [hn] at h2
    simpa [Ob.isNone, Nat.blt_eq] using h2
   ·intro hn
    have hi : (s.hp u.1).isNone = false := by
     cases hx : (s.hp u.1).isNone
     ·rfl
     ·exact absurd (Qj9.1 hx) hn
    rw [hi] at h2
    exact Qav.1 h2
  ·exact Qeu h1.2 hq
theorem Qov {o : Ob} : o.mapA (fun v => v) = o := by cases o <;> rfl
theorem Qpk {D : List Nat} {id : Nat} (h : (s.scrub D).hp id ≠ .none) : ∃ f, (s.scrub D).hp id = (s.hp id).mapA f := by
 cases D with
 | nil => exact ⟨_, Qov.symm⟩
 | cons x D =>
  have h' : (bif mem id (x :: D) then Ob.none else (s.hp id).mapA (AV.scrub (x :: D))) ≠ .none := h
  cases hm : mem id (x :: D)
  ·exact ⟨AV.scrub (x :: D), by show (bif mem id (x :: D) then Ob.none else _) = _; rw [hm]; rfl⟩
  ·rw [hm] at h'; exact absurd rfl h'
theorem Qpl (D : List Nat) (id : Nat) : ∃ f, (s.killN D).hp id = (s.hp id).mapA f := by
 cases D with
 | nil => exact ⟨_, Qov.symm⟩
 | cons x D => exact ⟨AV.killN (x :: D), rfl⟩
theorem Qow {f : AV -> AV} {x y : Ob} (h : Tn x y) : Tn (x.mapA f) y := by cases x <;> cases y <;> exact h
theorem Quz {x y : Ob} (h : Tn x y) : x ≠ .none := by cases x <;> first | exact h.elim | simp
theorem Qq1 {w' : World} {x y : Ob} {r r' : Value} (h : Tn x y) (hr : r' = r) : Compat w w' x y r r' false := by
 refine ⟨hr, ?_, fun e => by cases e⟩
 cases x <;> cases y <;> first | exact h | exact h.elim
theorem Qm3 {hp : Nat -> Ob} {id : Nat} : ∀ {l : List Nat}, id ∈ l -> id ∉ nkOf hp l -> ∃ S v, hp id = .box S v
 | x :: r, h, hn => by
  simp only [nkOf] at hn
  rcases List.mem_cons.1 h with rfl | h
  ·cases hq : hp id with
   | box S v => exact ⟨S, v, rfl⟩
   | _ => rw [hq] at hn; simp at hn
  ·refine Qm3 h (fun h' => hn ?_)
   cases hp x <;> first | exact h' | exact List.mem_cons_of_mem _ h'
theorem Qmp {w' : World} {S : Sh} {v : AV} {y : Ob} {r r' : Value} {f g : AV -> AV} {nested : Bool} (h : Tn (.box S v) y) (hr : r' = r) : Compat w w' (((Ob.box S v).mapA g).mapA f) y r r' nested := by
 cases y with
 | box S' v' => exact ⟨hr, h, fun _ i p b o hp => by obtain ⟨_, _, _, _, _, _, hh, _⟩ := hp; exact (IsArr.not_box (S := S) (v := f (g v)) hh).elim⟩
 | _ => exact h.elim
theorem Qtq {con : Con} {g : FuncId} (hS : Sound P g con) (h : Sim w st ρ φ X.n a s) (hd : dstOk X o.dst = true) {l : List Nat} {d : Nat} {as : List AV} {vals : List Value} {r : Res} (hr : callBy (restr s.hp l) d con as = some r) (hc : r.c = true)
  (hnew : newOk s l r.up = true) (hnd : (r.up.map (·.1)).Nodup) (hv : All2 (ArgV w st ρ s.hp) as vals) :
  Meets P g vals.toArray w fun e w' => ∃ v st' ρ' φ', e = .returned v /\ Sim w' st' ρ' φ' X.n (a.put o.dst v) (s.app o.dst r) /\ Fr w w' st st' ρ ρ' φ φ' s (s.app o.dst r) := by
 have hle := Qmv s.hp l
 unfold callBy at hr
 cases hg : gather (restr s.hp l) con.ps as with
 | none => rw [hg] at hr; cases hr
 | some p =>
 obtain ⟨x, dr, wr, rd⟩ := p
 rw [hg] at hr; simp only at hr
 cases hcond : (nodup wr && disj wr rd && (!(immRes con.rs || immBack con.ps) || onlyC (restr s.hp l) rd)) <;> rw [hcond] at hr
 ·cases hr
 simp only [cond_true] at hr
 simp only [Bool.and_eq_true, Qb1, Qdo] at hcond
 obtain ⟨⟨hwn, hwr⟩, himm⟩ := hcond
 cases hres : resAV con.rs con.ps (con.fn x) (d + 10000) with
 | mk vs p =>
 obtain ⟨nl, k, y⟩ := p
 rw [hres] at hr; simp only at hr
 cases hbk : backAV (restr s.hp l) con.ps as y k with
 | none => rw [hbk] at hr; cases hr
 | some p =>
 obtain ⟨t, nw⟩ := p
 rw [hbk] at hr; simp only at hr
 cases han : allNone (restr s.hp l) (nl ++ nw) <;> rw [han] at hr
 ·cases hr
 simp only [cond_true, Option.some.injEq] at hr
 subst hr
 simp only at hc hnew hnd
 obtain ⟨L, l1, l2, l3, l4, l5⟩ := Qlq h hle hg hwn hv (st1 := fun b => st b ∨ ∃ id ∈ rd, φ id b) (fun b hb => hb)
 have hLs : ∀ b, L b -> b < w.heap.size /\ ¬ st b := fun b hb => by
  obtain ⟨j, _, hb⟩ := l1 b hb; exact h.lt j b hb
 refine (hS w _ vals x L (fun b hb => ⟨?_, fun hL => ?_⟩) (fun b hb => (hLs b hb).1) hc l2).mono ?_
 ·rcases hb with hb | ⟨j, hj, hb⟩
  ·exact h.stlt b hb
  ·exact (h.lt j b hb).1
 ·obtain ⟨i, hi, hib⟩ := l1 b hL
  rcases hb with hb | ⟨j, hj, hb⟩
  ·exact (h.lt i b hib).2 hb
  ·have := h.dj i j b hib hb; subst this
   exact hwr i hi hj
 rintro e w' ⟨us, st1, G, rfl, hp⟩
 -- the memory read alone behind
 obtain ⟨st2, q1, q2, q3, q4, q5⟩ : ∃ st2 : Blks, (∀ b, st b -> st2 b) /\ (∀ b, st2 b -> st b ∨ L b ∨ w.heap.size <= b) /\ (∀ b, G b -> ¬ st2 b) /\ (∀ b, st2 b -> b < w'.heap.size) /\ ResR w' st2 con.rs con.ps (con.fn x) us vals G := by
  cases hf : (immRes con.rs || immBack con.ps)
  ·simp only [Bool.or_eq_false_iff] at hf
   refine ⟨st, fun _ h => h, fun _ h => .inl h, fun b hb hst => ?_, fun b hb => Nat.lt_of_lt_of_le (h.stlt b hb) hp.size, Qf6 hf.1 hf.2 hp.res⟩
   rcases hp.g1 b hb with hL | hge
   ·exact (hLs b hL).2 hst
   ·have := h.stlt b hst; omega
  ·rw [hf] at himm
   have himm : onlyC (restr s.hp l) rd = true := by simpa using himm
   refine ⟨st1, fun b hb => hp.st1 b (.inl hb), fun b hb => ?_, fun b hb => (hp.g2 b hb).2, hp.stlt, hp.res⟩
   rcases hp.st2 b hb with (hb | ⟨j, hj, hb⟩) | hb
   ·exact .inl hb
   ·exfalso
    have := List.all_eq_true.1 himm j hj
    cases hq : restr s.hp l j with
    | cbox S x =>
     have hO := hle.get hq (by simp)
     have hob := h.ob j
     rw [hO] at hob
     obtain ⟨_, _, _, _, _, _, _, _, hno⟩ := hob
     exact hno b hb
    | _ => rw [hq] at this; cases this
   ·exact .inr hb
 have hnd2 := List.nodup_append.1 (by rw [<- List.map_append]; exact hnd : (nl.map (·.1) ++ (t ++ nw).map (·.1)).Nodup)
 obtain ⟨G1, G2, ρ1, φ1, r1, r2, r3, r4, r5, r6, r7⟩ := Qkf q5 hres hnd2.1
 have hGL : ∀ b, G b -> (∃ id ∈ wr, φ id b) -> L b := fun b hb ⟨j, _, hj⟩ => (hp.g1 b hb).elim id (fun hge => by have := (h.lt j b hj).1; omega)
 have hsame : ∀ b, (∃ id ∈ wr, φ id b) -> ¬ L b -> w'.heap[b]? = w.heap[b]? := fun b ⟨j, _, hj⟩ hn => hp.keep b (h.lt j b hj).1 hn
 obtain ⟨m1, m2, ρ2, φ2, m3, m4⟩ := l5 w' st2 y k t nw G2 hbk r4 hsame (fun b hb hb' => hGL b (r3 b hb) hb') hnd2.2.1
 have hkd : ∀ id, id ∈ nl.map (·.1) -> id ∉ (t ++ nw).map (·.1) := fun id h1 h2 => hnd2.2.2 id h1 id h2 rfl
 obtain ⟨ρL, φL, hlay, hRV, hturn⟩ : ∃ ρL φL, Lay w' st2 (fun b => G b ∨ ((∃ id ∈ wr, φ id b) /\ ¬ L b)) (nl ++ (t ++ nw)) ρL φL /\
   (∀ (ρ : Nat -> Value) (O : Nat -> Ob), (∀ id ∈ (nl ++ (t ++ nw)).map (·.1), ρ id = ρL id) -> (∀ q ∈ nl ++ (t ++ nw), O q.1 = q.2) -> All2 (RV1 w' st2 ρ O) vs us) /\ ∀ q ∈ t, ρL q.1 = ρ q.1 := by
  refine ⟨_, _, Lay.both r5 m3 ?_ ?_ ?_ hkd, fun ρ' O g1 g2 => r7 ρ' O (fun id hid => ?_) (fun q hq => g2 q (by simp [hq])), fun q hq => ?_⟩
  ·rintro b hb (hb' | ⟨hb', hn⟩)
   ·exact r1 b hb hb'
   ·exact hn (hGL b (r2 b hb) hb')
  ·exact fun b hb => .inl (r2 b hb)
  ·rintro b (hb | hb)
   ·exact .inl (r3 b hb)
   ·exact .inr hb
  ·rw [g1 id (by rw [List.map_append, List.mem_append]; exact .inl hid), Qav.2 hid]; rfl
  ·have hm : q.1 ∈ (t ++ nw).map (·.1) := List.mem_map.2 ⟨q, by simp [hq], rfl⟩
   rw [Qaq.2 (fun h => hkd q.1 h hm)]; exact m4 q hq
 have hfresh : ∀ q, q ∈ nl ++ nw -> s.hp q.1 = .none := fun q hq => by
  have h1 := List.all_eq_true.1 han q hq
  have h2 := (Qeu hnew (q := q) (by simp only [List.mem_append] at hq ⊢; rcases hq with hq | hq <;> simp [hq])).2
  cases hi : s.hp q.1 with
  | none => rfl
  | _ =>
   have hm := h2 (by rw [hi]; simp)
   unfold restr at h1
   rw [Qav.2 hm, hi] at h1
   cases h1
 have hup : ∀ q, q ∈ nl ++ (t ++ nw) -> s.hp q.1 ≠ .none -> q ∈ t := fun q hq hne => by
  simp only [List.mem_append] at hq
  rcases hq with hq | hq | hq
  ·exact absurd (hfresh q (by simp [hq])) hne
  ·exact hq
  ·exact absurd (hfresh q (by simp [hq])) hne
 have hwrk : ∀ id ∈ wr, id ∈ dr ∨ id ∈ (nl ++ (t ++ nw)).map (·.1) := fun id hid => (m1 id hid).imp (fun h => h) (fun h => by
  simp only [List.map_append, List.mem_append]; exact .inr (.inl h))
 have hFst : ∀ b, (G b ∨ ((∃ id ∈ wr, φ id b) /\ ¬ L b)) -> b < w'.heap.size /\ ¬ st2 b := by
  rintro b (hb | ⟨⟨j, hj, hb⟩, hn⟩)
  ·exact ⟨(hp.g2 b hb).1, q3 b hb⟩
  ·refine ⟨Nat.lt_of_lt_of_le (h.lt j b hb).1 hp.size, fun h2 => ?_⟩
   rcases q2 b h2 with h2 | h2 | h2
   ·exact (h.lt j b hb).2 h2
   ·exact hn h2
   ·have := (h.lt j b hb).1; omega
 -- a block of another object
 have hoth : ∀ id b, id ∉ (nl ++ (t ++ nw)).map (·.1) -> φ id b -> id ∉ dr -> ¬ L b := fun id b hk hb hdr hL => by
  obtain ⟨j, hj, hjb⟩ := l1 b hL
  have := h.dj id j b hb hjb; subst this
  exact (hwrk id hj).elim hdr hk
 have hs1 := (h.scrub dr).killN (nkOf (restr s.hp l) wr)
 have hlive1 : ∀ id, ((s.scrub dr).killN (nkOf (restr s.hp l) wr)).hp id ≠ .none -> s.hp id ≠ .none := fun id hid => (Qg1 (Qd2 hid)).1
 have hupd : ∀ q ∈ nl ++ (t ++ nw), updL ((s.scrub dr).killN (nkOf (restr s.hp l) wr)).hp (nl ++ (t ++ nw)) q.1 = q.2 := fun q hq => Qfj _ _ hnd hq
 have hm := Sim.upd (up := nl ++ (t ++ nw)) (w' := w') (st' := st2) (ρ' := fun id => bif mem id ((nl ++ (t ++ nw)).map (·.1)) then ρL id else ρ id)
  (φ' := fun id b => (id ∈ (nl ++ (t ++ nw)).map (·.1) /\ φL id b) ∨ (id ∉ (nl ++ (t ++ nw)).map (·.1) /\ φ id b /\ id ∉ dr)) hs1 hnd q1
  (fun b hb => hp.keep b (h.stlt b hb) (fun hL => (hLs b hL).2 hb))
  (fun id hid => ⟨by simp only [Qaq.2 hid, cond_false], by
   funext b
   exact propext ⟨fun hb => hb.elim (fun h => absurd h.1 hid) (fun h => h.2), fun hb => .inr ⟨hid, hb⟩⟩, fun b hb => hp.keep b (h.lt id b hb.1).1 (hoth id b hid hb.1 hb.2)⟩)
  hlay.nn
  (fun q hq => by
   have hqm : q.1 ∈ (nl ++ (t ++ nw)).map (·.1) := List.mem_map.2 ⟨q, hq, rfl⟩
   refine Qdw (hlay.ob _ _ (fun id hid => by simp only [Qav.2 hid, cond_true]) hupd q hq) (fun b => ⟨fun hb => ?_, fun hb => .inl ⟨hqm, hb⟩⟩)
   rcases hb with ⟨_, hb⟩ | ⟨hn, _⟩
   ·exact hb
   ·exact absurd hqm hn)
  (fun id => !mem id (nkOf (restr s.hp l) wr))
  (fun q hq hne => by
   have hqt := hup q hq (hlive1 _ hne)
   obtain ⟨w1, w2⟩ := m2 q hqt
   have hqm : q.1 ∈ (nl ++ (t ++ nw)).map (·.1) := List.mem_map.2 ⟨q, hq, rfl⟩
   obtain ⟨f1, e1⟩ := Qpl (s := s.scrub dr) (nkOf (restr s.hp l) wr) q.1
   obtain ⟨f2, e2⟩ := Qpk (Qd2 hne)
   rw [e1, e2]
   cases hnk : mem q.1 (nkOf (restr s.hp l) wr)
   ·obtain ⟨S, v, hbx⟩ := Qm3 w1 (Qaq.1 hnk)
    rw [hle.get hbx (by simp)] at w2 ⊢
    refine Qmp w2 ?_
    simp only [Qav.2 hqm, cond_true]
    exact hturn q hqt
   ·refine Qq1 (Qow (Qow w2)) ?_
    simp only [Qav.2 hqm, cond_true]
    exact hturn q hqt)
  (fun q hq hf => by
   have hf : (!mem q.1 (nkOf (restr s.hp l) wr)) = false := hf
   have : q.1 ∈ nkOf (restr s.hp l) wr := by
    cases hmm : mem q.1 (nkOf (restr s.hp l) wr)
    ·rw [hmm] at hf; cases hf
    ·exact Qav.1 hmm
   exact Qej this)
  (fun id b hb => by
   rcases hb with ⟨_, hb⟩ | ⟨hk, hb, hdr⟩
   ·exact hFst b (hlay.sup id b hb).1
   ·refine ⟨Nat.lt_of_lt_of_le (h.lt id b hb).1 hp.size, fun h2 => ?_⟩
    rcases q2 b h2 with h2 | h2 | h2
    ·exact (h.lt id b hb).2 h2
    ·exact hoth id b hk hb hdr h2
    ·have := (h.lt id b hb).1; omega)
  (fun i j b hi hj => by
   have key : ∀ i j, (i ∈ (nl ++ (t ++ nw)).map (·.1) /\ φL i b) -> (j ∉ (nl ++ (t ++ nw)).map (·.1) /\ φ j b /\ j ∉ dr) -> False := by
    rintro i j ⟨_, hi⟩ ⟨hk, hj, hdr⟩
    rcases (hlay.sup i b hi).1 with hG | ⟨⟨m, hm, hmb⟩, _⟩
    ·rcases hp.g1 b hG with hL | hge
     ·exact hoth j b hk hj hdr hL
     ·have := (h.lt j b hj).1; omega
    ·have := h.dj j m b hj hmb; subst this
     exact (hwrk j hm).elim hdr hk
   rcases hi with hi | hi <;> rcases hj with hj | hj
   ·exact hlay.dj i j b hi.2 hj.2
   ·exact (key i j hi hj).elim
   ·exact (key j i hj hi).elim
   ·exact h.dj i j b hi.2.1 hj.2.1)
  q4
  (fun q hq id hid => by
   obtain ⟨q', hq', e⟩ := List.mem_map.1 (hlay.ids q hq id hid)
   rw [<- e, hupd q' hq']
   exact hlay.nn q' hq')
 refine ⟨_, _, _, _, rfl, hm.put o.dst (retV us) (resultAV vs) (fun q hq => ?_) ?_ ?_, ?_⟩
 ·rw [hq] at hd; simpa [dstOk, Nat.blt_eq] using hd
 ·exact Qul (hRV _ _ (fun id hid => by simp only [Qav.2 hid, cond_true]) hupd) (fun av hav => (r6 av hav).1)
 ·intro id hid
  obtain ⟨av, hav, hid⟩ := Qpj hid
  obtain ⟨q, hq, e⟩ := List.mem_map.1 ((r6 av hav).2 id hid)
  have hq' : q ∈ nl ++ (t ++ nw) := by simp [hq]
  show updL _ _ id ≠ _
  rw [<- e, hupd q hq']
  exact hlay.nn q hq'
 ·refine ⟨hp.os, hp.tape, hp.output, hp.size, fun b hb hn => hp.keep b hb (fun hL => ?_), q1, fun b hb => ?_, fun id b hb => ?_, fun id hp5 hn => ?_⟩
  ·obtain ⟨j, _, hj⟩ := l1 b hL; exact hn j hj
  ·rcases q2 b hb with hb | hb | hb
   ·exact .inl hb
   ·obtain ⟨j, _, hj⟩ := l1 b hb; exact .inr (.inl ⟨j, hj⟩)
   ·exact .inr (.inr hb)
  ·rcases hb with ⟨_, hb⟩ | ⟨_, hb, _⟩
   ·rcases (hlay.sup id b hb).1 with hG | ⟨⟨m, hm, hmb⟩, _⟩
    ·rcases hp.g1 b hG with hL | hge
     ·obtain ⟨j, _, hj⟩ := l1 b hL; exact .inl ⟨j, hj⟩
     ·exact .inr hge
    ·exact .inl ⟨m, hmb⟩
   ·exact .inl ⟨id, hb⟩
  ·have hn' : updL ((s.scrub dr).killN (nkOf (restr s.hp l) wr)).hp (nl ++ (t ++ nw)) id ≠ .none := by
    have : (s.app o.dst ⟨con.pre x, resultAV vs, nl ++ (t ++ nw), dr, nkOf (restr s.hp l) wr⟩).hp id = updL ((s.scrub dr).killN (nkOf (restr s.hp l) wr)).hp (nl ++ (t ++ nw)) id := by cases o.dst <;> rfl
    rw [<- this]; exact hn
   rcases Qby (nl ++ (t ++ nw)) ((s.scrub dr).killN (nkOf (restr s.hp l) wr)).hp id hnd with ⟨hk, e⟩ | ⟨v, hv, e⟩
   ·rw [e] at hn'
    exact ⟨hlive1 id hn', by simp only [Qaq.2 hk, cond_false]⟩
   ·by_cases hlv : s.hp id = .none
    ·have := (Qeu hnew hv).1 hlv
     have : id % 10000 < 5000 := this
     omega
    ·have hqt := hup (id, v) hv hlv
     have hqm : id ∈ (nl ++ (t ++ nw)).map (·.1) := List.mem_map.2 ⟨_, hv, rfl⟩
     exact ⟨hlv, by simp only [Qav.2 hqm, cond_true]; exact hturn _ hqt⟩
end
end Go.Vm

set_option linter.unusedVariables false
set_option linter.unusedSimpArgs false
namespace Go.Vm
def ConOk (P : Program) (X : Ctx) : Prop := ∀ f, ∀ c ∈ X.con f, Sound P f c
section
variable {P : Program} {X : Ctx} {w : World} {st : Blks} {ρ : Nat -> Value} {φ : Nat -> Blks} {n : Nat} {a : Act} {s : St} {o : Oper} {hp : Nat -> Ob}
theorem Qh2 {d : Nat} {as : List AV} {r : Res} : ∀ {cs : List Con}, callCons hp d as cs = some r -> ∃ c ∈ cs, callBy hp d c as = some r
 | [], h => by cases h
 | c :: cs, h => by
  simp only [callCons] at h
  cases hc : callBy hp d c as with
  | some x => rw [hc] at h; cases h; exact ⟨c, by simp, hc⟩
  | none =>
   rw [hc] at h
   obtain ⟨c', h1, h2⟩ := Qh2 h
   exact ⟨c', by simp [h1], h2⟩
theorem Qjo {α β γ : Type} {R : β -> γ -> Prop} {f : α -> β} {g : α -> γ} : ∀ {l : List α}, (∀ x ∈ l, R (f x) (g x)) -> All2 R (l.map f) (l.map g)
 | [], _ => .nil
 | x :: l, h => .cons (h x (by simp)) (Qjo (fun y hy => h y (by simp [hy])))
theorem Qiz {β γ : Type} {R : β -> γ -> Prop} : ∀ {a : List β} {b : List γ} {c : List β} {d : List γ}, All2 R a b -> All2 R c d -> All2 R (a ++ c) (b ++ d)
 | _, _, _, _, .nil, h => h
 | _, _, _, _, .cons h1 h2, h => .cons h1 (Qiz h2 h)
theorem Qtr (hA : TyAll P X) (hC : ConOk P X) (h : Sim w st ρ φ X.n a s) {s' : St} (hs : step X o s = some (true, s')) {K : Act -> World -> Prop} {Q : Exit -> Act -> World -> Prop}
  (hK : ∀ v w' st' ρ' φ', Sim w' st' ρ' φ' X.n (a.put o.dst v) s' -> Fr w w' st st' ρ ρ' φ φ' s s' -> K (a.put o.dst v) w') : o.wp P a w K Q := by
 unfold step at hs
 simp only at hs
 cases hr : core X o (rho X s.env) (restr s.hp (foot X s o)) with
 | none => rw [hr] at hs; cases hs
 | some r =>
  rw [hr] at hs; simp only at hs
  cases hcond : (dstOk X o.dst && newOk s (foot X s o) r.up && nodup (r.up.map (·.1)) && disj (r.up.map (·.1)) r.dr && subl r.dr (foot X s o)) <;> rw [hcond] at hs
  ·cases hs
  simp only [cond_true, Option.some.injEq, Prod.mk.injEq] at hs
  obtain ⟨hc, rfl⟩ := hs
  simp only [Bool.and_eq_true, Qb1] at hcond
  obtain ⟨⟨⟨⟨hd, hnew⟩, hnd⟩, _⟩, _⟩ := hcond
  have pure : Does P X o w st ρ φ a s r -> o.wp P a w K Q := by
   rintro ⟨nx, v, w', st', ρ', φ', hrun, hnx, hsim, hfr⟩
   unfold Oper.wp
   rw [hrun]
   rcases hnx with rfl | ⟨rfl, rfl⟩
   ·exact hK v w' st' ρ' φ' hsim hfr
   ·exact hK undef w' st' ρ' φ' hsim hfr
  by_cases hcall : ∃ c f, o.op = .call c /\ c.callee = .value f
  ·obtain ⟨c, f, hop, hcal⟩ := hcall
   unfold core at hr
   simp only [hop, hcal] at hr
   cases hf : rho X s.env 0 f with
   | fn g caps =>
    rw [hf] at hr; simp only at hr
    obtain ⟨con, hmem, hby⟩ := Qh2 hr
    have hfv : a.eval f = .func (.func g) #[] (caps.map ρ).toArray := by
     have rf := Qap h 0 f
     rw [hf] at rf
     have e : [a.eval f] = [.func (.func g) #[] (caps.map ρ).toArray] := Qao rf rfl rfl (by simp)
     simpa using e
    have hv : All2 (ArgV w st ρ s.hp) ((c.args.toList.map fun x => rho X s.env 0 x) ++ caps.map fun id => .ptr id none []) (c.args.toList.map a.eval ++ caps.map ρ) :=
     Qiz (Qjo fun x _ => .inl (Qap h 0 x)) (Qjo fun id _ => .inr ⟨id, rfl, rfl⟩)
    have hex : ∀ res, (callFunc g (c.args.toList.map a.eval ++ caps.map ρ).toArray).run P w = res -> (execOp a.eval o).run P w = res := by
     intro res hS
     have e1 : c.args.map a.eval ++ (caps.map ρ).toArray = (c.args.toList.map a.eval ++ caps.map ρ).toArray := by
      apply Array.ext'; simp
     simp only [execOp, hop, resolve, hcal, hfv, Deferred.ofValue]
     simp [invoke]
     rw [<- hS]
     congr 2
    unfold Oper.wp
    rcases Qtq (hC g con hmem) h hd hby hc hnew hnd hv with ⟨h1, h2⟩ | ⟨v1, w', h1, v, st', ρ', φ', he, hsim, hfr⟩
    ·rw [hex _ h1, Oper.upon_enter]
     refine h2.mono ?_
     rintro e w' ⟨v, st', ρ', φ', rfl, hsim, hfr⟩
     exact hK v w' st' ρ' φ' hsim hfr
    ·rw [hex _ h1, Oper.upon_value]
     cases he
     exact hK _ w' st' ρ' φ' hsim hfr
   | _ => rw [hf] at hr; cases hr
  ·exact pure (Qqy hA h hd hnew hr hc (fun c f h1 h2 => absurd ⟨c, f, h1, h2⟩ hcall))
def Inv (X : Ctx) (w0 : World) (st0 : Blks) (ρ0 : Nat -> Value) (φ0 : Nat -> Blks) (s0 : St) (a : Act) (w : World) (s : St) : Prop :=
 ∃ st ρ φ, Sim w st ρ φ X.n a s /\ Fr w0 w st0 st ρ0 ρ φ0 φ s0 s
variable {w0 : World} {st0 : Blks} {ρ0 : Nat -> Value} {φ0 : Nat -> Blks} {s0 : St}
theorem Inv.step (hA : TyAll P X) (hC : ConOk P X) (h : Inv X w0 st0 ρ0 φ0 s0 a w s) {s' : St} (hs : step X o s = some (true, s')) {K : Act -> World -> Prop} {Q : Exit -> Act -> World -> Prop}
  (hK : ∀ v w', Inv X w0 st0 ρ0 φ0 s0 (a.put o.dst v) w' s' -> K (a.put o.dst v) w') : o.wp P a w K Q := by
 obtain ⟨st, ρ, φ, h1, h2⟩ := h
 exact Qtr hA hC h1 hs fun v w' st' ρ' φ' g1 g2 => hK v w' ⟨st', ρ', φ', g1, h2.trans g2⟩
theorem Inv.skip (h : Inv X w0 st0 ρ0 φ0 s0 a w s) (hd : dstOk X o.dst = true) : Inv X w0 st0 ρ0 φ0 s0 (a.put o.dst undef) w (s.put o.dst .tnil) := by
 obtain ⟨st, ρ, φ, h1, h2⟩ := h
 refine ⟨st, ρ, φ, h1.put o.dst undef .tnil (fun q hq => ?_) (.inl ⟨rfl, _, rfl, rfl⟩) (by simp [AV.ids]), h2.os, h2.tape, h2.output, h2.size, h2.keep, h2.st1, h2.st2, h2.ow, ?_⟩
 ·rw [hq] at hd; simpa [dstOk, Nat.blt_eq] using hd
 ·have : (s.put o.dst .tnil).hp = s.hp := by cases o.dst <;> rfl
  rw [this]; exact h2.pid
theorem Qf7 {t : Nat} {v : AV} (h : s.env t = v) : s.put (some t) v = s := by
 have : Go.Vm.upd s.env t v = s.env := by
  funext k
  by_cases hk : k = t
  ·subst hk; rw [Qa0, h]
  ·rw [Qa5 _ _ hk]
 show (⟨Go.Vm.upd s.env t v, s.hp⟩ : St) = s
 rw [this]
theorem Inv.tmp_bool (h : Inv X w0 st0 ρ0 φ0 s0 a w s) {t : Nat} {b : Bool} (ht : s.env t = .val .bool b) : a.tmps[t]? = some (.bool b) := by
 obtain ⟨st, ρ, φ, h1, _⟩ := h
 have := h1.env t
 rw [ht] at this
 have := Qdd this
 rw [Array.getD_eq_getD_getElem?] at this
 cases hx : a.tmps[t]? with
 | none => rw [hx] at this; simp [undef] at this
 | some v => rw [hx] at this; simp at this; rw [this]
theorem Qi0 {R : Type} {ops : Array Oper} {f : St -> Option R} {y : R} (h : splitG ops o s f = some y) : f s = some y := by
 unfold splitG at h
 split at h
 ·exact h
 ·split at h
  ·rename_i t _
   split at h
   ·rename_i b hb
    cases b
    ·simp only [cond_false] at h; rwa [Qf7 hb] at h
    ·simp only [cond_true] at h; rwa [Qf7 hb] at h
   ·exact h
   ·cases h
  ·cases h
theorem Qfq {ops : Array Oper} {x : Bool} (h : Inv X w0 st0 ρ0 φ0 s0 a w s) (hw : wantedA ops o s = some x) : Region.wanted o (yielded ops a.tmps) = x := by
 unfold wantedA at hw
 unfold Region.wanted
 cases hg : o.guard with
 | none => rw [hg] at hw; simp only at hw; cases hw; rfl
 | some p =>
  obtain ⟨j, want⟩ := p
  rw [hg] at hw; simp only at hw
  cases ho : opDst ops j with
  | none => rw [ho] at hw; cases hw
  | some t =>
   rw [ho] at hw; simp only at hw
   split at hw
   ·rename_i b hb
    cases hw
    have := h.tmp_bool hb
    have hy : yielded ops a.tmps j = some b := by
     unfold opDst at ho
     unfold yielded
     rw [ho]; simp [this]
    simp only [hy]
    cases b <;> cases want <;> rfl
   ·rename_i hb
    cases hw
    have hu : a.tmps.getD t undef = .tuple #[] := by
     obtain ⟨st, ρ, φ, h1, _⟩ := h
     have := h1.env t
     rw [hb] at this
     rcases this with ⟨_, vs, e, hr⟩ | ⟨h2, _⟩
     ·rw [e]
      have hr : vs.toList = [] := hr
      simp at hr; rw [hr]
     ·cases h2
    have hy : yielded ops a.tmps j = none := by
     unfold opDst at ho
     unfold yielded
     rw [ho]
     rw [Array.getD_eq_getD_getElem?] at hu
     cases hx : a.tmps[t]? with
     | none => simp [hx]
     | some v => rw [hx] at hu; simp at hu; simp [hx, hu]
    simp only [hy]
    rfl
   ·cases hw
theorem Qjp {R : Type} (hA : TyAll P X) (hC : ConOk P X) {ops : Array Oper} {K : St -> Option R} {y0 : R} {Q : Exit -> Act -> World -> Prop}
  (hK : ∀ a w s, Inv X w0 st0 ρ0 φ0 s0 a w s -> K s = some y0 -> Q .normal a w) : ∀ (l : List Oper) (a : Act) (w : World) (s : St), Inv X w0 st0 ρ0 φ0 s0 a w s -> evOps X ops l s K = some y0 -> wpList P ops Q l a w
 | [], a, w, s, hi, h => hK a w s hi h
 | o :: l, a, w, s, hi, h => by
  simp only [evOps] at h
  have h := Qi0 h
  cases hg : gstep X ops o s with
  | none => rw [hg] at h; cases h
  | some p =>
   obtain ⟨c, s2⟩ := p
   rw [hg] at h; simp only at h
   cases c
   ·cases h
   simp only [cond_true] at h
   unfold gstep at hg
   cases hw : wantedA ops o s with
   | none => rw [hw] at hg; cases hg
   | some x =>
    rw [hw] at hg; simp only at hg
    have hwk := Qfq hi hw
    show (if Region.wanted o (yielded ops a.tmps) then _ else _)
    rw [hwk]
    cases x
    ·simp only [cond_false] at hg
     cases hd : dstOk X o.dst <;> rw [hd] at hg
     ·cases hg
     simp only [cond_true, Option.some.injEq, Prod.mk.injEq, true_and] at hg
     subst hg
     simp only [Bool.false_eq_true, if_false]
     exact Qjp hA hC hK l _ w _ (hi.skip hd) h
    ·simp only [cond_true] at hg
     simp only [if_true]
     exact .inl (hi.step hA hC hg fun v w' hi' => Qjp hA hC hK l _ w' _ hi' h)
end
end Go.Vm

set_option linter.unusedVariables false
set_option linter.unusedSimpArgs false
namespace Go.Vm
theorem Qg5 {α β : Type} {f g : α -> List β} : ∀ {l : List α}, (∀ x ∈ l, f x = g x) -> l.flatMap f = l.flatMap g
 | [], _ => rfl
 | x :: l, h => by rw [List.flatMap_cons, List.flatMap_cons, h x (by simp), Qg5 (fun y hy => h y (by simp [hy]))]
theorem Qpm {X : Ctx} {o : Oper} {r r' : TypeId -> Operand -> AV} {hp : Nat -> Ob} (h : ∀ T, ∀ x ∈ o.op.operands.toList, r T x = r' T x) : core X o r hp = core X o r' hp := by
 cases hop : o.op with
 | move x => simp only [core, hop]; rw [h o.type x (by simp [hop, Op.operands])]
 | assign x => simp only [core, hop]; rw [h o.type x (by simp [hop, Op.operands])]
 | pick c x y => simp only [core, hop]; rw [h 0 c (by simp [hop, Op.operands]), h o.type x (by simp [hop, Op.operands]), h o.type y (by simp [hop, Op.operands])]
 | alloc T => simp only [core, hop]
 | box T x => simp only [core, hop]; rw [h T x (by simp [hop, Op.operands])]
 | build T parts =>
  have : (parts.toList.map fun q => (q.1, r 0 q.2)) = parts.toList.map fun q => (q.1, r' 0 q.2) := List.map_congr_left fun q hq => by
   rw [h 0 q.2 (by simp only [hop, Op.operands]; exact List.mem_map.2 ⟨q, hq, rfl⟩)]
  simp only [core, hop, this]
 | buildSlice T n parts =>
  have : (parts.toList.map fun q => (q.1, r 0 q.2)) = parts.toList.map fun q => (q.1, r' 0 q.2) := List.map_congr_left fun q hq => by
   rw [h 0 q.2 (by simp only [hop, Op.operands]; exact List.mem_map.2 ⟨q, hq, rfl⟩)]
  simp only [core, hop, this]
 | load T x => simp only [core, hop]; rw [h 0 x (by simp [hop, Op.operands])]
 | store T x y => simp only [core, hop]; rw [h 0 x (by simp [hop, Op.operands]), h T y (by simp [hop, Op.operands])]
 | nilCheck x => simp only [core, hop]; rw [h 0 x (by simp [hop, Op.operands])]
 | binOp op T x y T' => simp only [core, hop]; rw [h T x (by simp [hop, Op.operands]), h T y (by simp [hop, Op.operands])]
 | unOp op T x => simp only [core, hop]; rw [h 0 x (by simp [hop, Op.operands])]
 | convert src dst x => simp only [core, hop]; rw [h 0 x (by simp [hop, Op.operands])]
 | makeFunc fn first caps =>
  have : (caps.toList.map fun x => r 0 x) = caps.toList.map fun x => r' 0 x := List.map_congr_left fun x hx => h 0 x (by simp [hop, Op.operands]; right; simpa using hx)
  simp only [core, hop, this]
 | makeSlice T x y => simp only [core, hop]; rw [h 0 x (by simp [hop, Op.operands]), h 0 y (by simp [hop, Op.operands])]
 | slice T x lo hi mx =>
  have e1 : lo.map (r 0) = lo.map (r' 0) := by
   cases lo with
   | none => rfl
   | some y => simp only [Option.map_some]; rw [h 0 y (by simp [hop, Op.operands])]
  have e2 : hi.map (r 0) = hi.map (r' 0) := by
   cases hi with
   | none => rfl
   | some y => simp only [Option.map_some]; rw [h 0 y (by simp [hop, Op.operands])]
  have e3 : mx.map (r 0) = mx.map (r' 0) := by
   cases mx with
   | none => rfl
   | some y => simp only [Option.map_some]; rw [h 0 y (by simp [hop, Op.operands])]
  simp only [core, hop, e1, e2, e3]; rw [h 0 x (by simp [hop, Op.operands])]
 | fieldAddr T x f => simp only [core, hop]; rw [h 0 x (by simp [hop, Op.operands])]
 | field T x f => simp only [core, hop]; rw [h 0 x (by simp [hop, Op.operands])]
 | indexAddr T x y => simp only [core, hop]; rw [h 0 x (by simp [hop, Op.operands]), h 0 y (by simp [hop, Op.operands])]
 | index T x y => simp only [core, hop]; rw [h 0 x (by simp [hop, Op.operands]), h 0 y (by simp [hop, Op.operands])]
 | extract x i => simp only [core, hop]; rw [h 0 x (by simp [hop, Op.operands])]
 | call c =>
  have ha : ∀ x ∈ c.args.toList, ∀ T, r T x = r' T x := fun x hx T => h T x (by simp [hop, Op.operands, Call.operands]; right; simpa using hx)
  simp only [core, hop]
  cases hcal : c.callee with
  | builtin b =>
   cases b with
   | len =>
    simp only
    cases hargs : c.args.toList with
    | nil => rfl
    | cons x l =>
     cases l with
     | nil =>
      cases hT : c.argTypes.toList with
      | nil => rfl
      | cons T1 l => simp only [ha x (by simp [hargs]) 0]
     | cons _ _ => rfl
   | append =>
    simp only
    cases hargs : c.args.toList with
    | nil => rfl
    | cons x l =>
     cases l with
     | nil => rfl
     | cons y l =>
      cases l with
      | nil =>
       cases hT : c.argTypes.toList with
       | nil => rfl
       | cons T1 l =>
        cases l with
        | nil => rfl
        | cons T2 l =>
         cases l with
         | nil =>
          cases o.dst with
          | none => rfl
          | some d => simp only [ha x (by simp [hargs]) T1, ha y (by simp [hargs]) T1]
         | cons _ _ => rfl
      | cons _ _ => rfl
   | _ => rfl
  | value f =>
   have hf : r 0 f = r' 0 f := h 0 f (by simp [hop, Op.operands, Call.operands, hcal])
   have hm : (c.args.toList.map fun x => r 0 x) = c.args.toList.map fun x => r' 0 x := List.map_congr_left fun x hx => ha x hx 0
   simp only [hf, hm]
  | _ => rfl
 | _ => simp only [core, hop]
def View (π : AV -> AV) (L : List Nat) (T : List Nat) (s s' : St) : Prop := (∀ t ∈ T, π (s'.env t) = π (s.env t)) /\ ∀ id ∈ L, s'.hp id = s.hp id
def isExt : Op -> Bool
 | .extract _ _ => true
 | _ => false
theorem pj_id {op : Op} (h : isExt op = false) {v : AV} : pj op v = v := by
 cases op <;> first | rfl | cases h
theorem Qls {ops : Array Oper} {o : Oper} {t : Nat} (h : Operand.tmp t ∈ o.op.operands.toList) : t ∈ o.looksAt ops := by
 unfold Oper.looksAt
 rw [List.mem_append]
 exact .inl (List.mem_filterMap.2 ⟨_, h, rfl⟩)
theorem Qm4 {X : Ctx} {ops : Array Oper} {o : Oper} {L : List Nat} {s s' : St} (hv : View (pj o.op) L (o.looksAt ops) s s') (hx : isExt o.op = false) : ∀ T, ∀ x ∈ o.op.operands.toList, rho X s'.env T x = rho X s.env T x := by
 intro T x hxo
 cases x with
 | tmp t =>
  have := hv.1 t (Qls hxo)
  rwa [pj_id hx, pj_id hx] at this
 | _ => rfl
theorem Qq2 {X : Ctx} {ops : Array Oper} {o : Oper} {L : List Nat} {s s' : St} (hv : View (pj o.op) L (o.looksAt ops) s s') (hL : ∀ id ∈ foot X s o, id ∈ L) : foot X s' o = foot X s o := by
 have e1 : argIds X s'.env o = argIds X s.env o := by
  unfold argIds
  cases hx : isExt o.op
  ·congr 1
   exact Qg5 fun x hxo => by
    have := Qm4 (X := X) hv hx 0 x hxo
    unfold rho at this
    rw [this]
  ·have : Op.isMove o.op = true := by
    cases hop : o.op <;> rw [hop] at hx <;> first | rfl | cases hx
   rw [this]; rfl
 unfold foot
 simp only [e1]
 congr 1
 exact Qg5 fun id hid => by rw [hv.2 id (hL id (by unfold foot; simp only [List.mem_append]; exact .inl hid))]
theorem Qkg {l : List Nat} {s s' : St} : ∀ {up : List (Nat × Ob)}, (∀ id ∈ up.map (·.1), s'.hp id = s.hp id) -> newOk s' l up = newOk s l up
 | [], _ => rfl
 | u :: r, h => by
  simp only [newOk]
  rw [h u.1 (by simp), Qkg (up := r) (fun id hid => h id (by simp only [List.map_cons, List.mem_cons]; exact .inr hid))]
theorem Qq3 {X : Ctx} {ops : Array Oper} {o : Oper} {s s' : St} {r : Res} (hv : View (pj o.op) (foot X s o ++ r.up.map (·.1)) (o.looksAt ops) s s') (hc : core X o (rho X s.env) (restr s.hp (foot X s o)) = some r) (hs : step X o s = some (true, s.app o.dst r)) :
  step X o s' = some (true, s'.app o.dst r) := by
 have e1 := Qq2 (X := X) hv (fun id hid => by simp [hid])
 have e2 : restr s'.hp (foot X s o) = restr s.hp (foot X s o) := by
  funext id
  unfold restr
  cases hm : mem id (foot X s o)
  ·rfl
  ·simp only [cond_true]
   exact hv.2 id (by simp [Qav.1 hm])
 have e3 : core X o (rho X s'.env) (restr s'.hp (foot X s' o)) = some r := by
  rw [e1, e2]
  cases hx : isExt o.op
  ·rw [Qpm (Qm4 hv hx)]; exact hc
  ·cases hop : o.op with
   | extract x i =>
    simp only [core, hop] at hc ⊢
    have hq : (extractAV (rho X s'.env 0 x) i).getD .tnil = (extractAV (rho X s.env 0 x) i).getD .tnil := by
     cases x with
     | tmp t =>
      have := hv.1 t (Qls (by simp [hop, Op.operands]))
      rw [hop] at this
      exact this
     | _ => rfl
    cases h1 : extractAV (rho X s.env 0 x) i with
    | none => rw [h1] at hc; cases hc
    | some v =>
     rw [h1] at hc hq
     cases h2 : extractAV (rho X s'.env 0 x) i with
     | none =>
      rw [h2] at hq
      have hq : AV.tnil = v := hq
      subst hq
      cases hc
     | some v' =>
      rw [h2] at hq
      have hq : v' = v := hq
      subst hq
      exact hc
   | _ => rw [hop] at hx; cases hx
 have e4 : newOk s' (foot X s o) r.up = newOk s (foot X s o) r.up := Qkg fun id hid => hv.2 id (by simp only [List.mem_append]; exact .inr hid)
 unfold step at hs ⊢
 simp only [hc] at hs
 simp only [e3]
 rw [e1, e4]
 cases hcond : (dstOk X o.dst && newOk s (foot X s o) r.up && nodup (r.up.map (·.1)) && disj (r.up.map (·.1)) r.dr && subl r.dr (foot X s o)) <;> rw [hcond] at hs
 ·cases hs
 ·simp only [cond_true, Option.some.injEq, Prod.mk.injEq] at hs ⊢
  exact ⟨hs.1, trivial⟩
def gdOf (ops : Array Oper) (o : Oper) : List Nat :=
 match o.guard with
 | none => []
 | some (j, _) => match opDst ops j with
  | some t => [t]
  | none => []
theorem Qm5 {ops : Array Oper} {o : Oper} {t : Nat} (h : t ∈ gdOf ops o) : t ∈ o.looksAt ops := by
 unfold gdOf at h
 cases hg : o.guard with
 | none => rw [hg] at h; cases h
 | some p =>
  obtain ⟨j, want⟩ := p
  rw [hg] at h; simp only at h
  cases ho : opDst ops j with
  | none => rw [ho] at h; cases h
  | some t' =>
   rw [ho] at h
   simp at h; subst h
   unfold Oper.looksAt
   rw [List.mem_append]
   right
   unfold opDst at ho
   simp [hg, ho]
theorem Qi1 {ops : Array Oper} {o : Oper} {s s' : St} (hv : ∀ t ∈ gdOf ops o, s'.env t = s.env t) : wantedA ops o s' = wantedA ops o s := by
 unfold wantedA
 cases hg : o.guard with
 | none => rfl
 | some p =>
  obtain ⟨j, want⟩ := p
  simp only
  cases ho : opDst ops j with
  | none => rfl
  | some t => simp only [hv t (by unfold gdOf; rw [hg]; simp [ho])]
theorem Qn9 {ops : Array Oper} {o : Oper} {s : St} {W : Bool} (h : wantedA ops o s = some W) : ∀ t ∈ gdOf ops o, (s.env t).whole = true /\ (s.env t).ids = [] := by
 intro t ht
 unfold wantedA at h
 unfold gdOf at ht
 cases hg : o.guard with
 | none => rw [hg] at ht; cases ht
 | some p =>
  obtain ⟨j, want⟩ := p
  rw [hg] at h ht; simp only at h ht
  cases ho : opDst ops j with
  | none => rw [ho] at ht; cases ht
  | some t' =>
   rw [ho] at h ht; simp only at h
   simp at ht; subst ht
   split at h
   ·rename_i hb; rw [hb]; exact ⟨rfl, rfl⟩
   ·rename_i hb; rw [hb]; exact ⟨rfl, rfl⟩
   ·cases h
structure En where
 o : Oper
 W : Bool
 r : Res
 s : St
 f : Info
def En.run (e : En) (s : St) : St := bif e.W then s.app e.o.dst e.r else s.put e.o.dst .tnil
def EnOk (X : Ctx) (ops : Array Oper) (i : Nat) (e : En) : Prop :=
 wantedA ops e.o e.s = some e.W /\ e.f.o = e.o /\ e.f.i = i /\ dstOk X e.o.dst = true /\
 (e.W = true -> step X e.o e.s = some (true, e.s.app e.o.dst e.r) /\ core X e.o (rho X e.s.env) (restr e.s.hp (foot X e.s e.o)) = some e.r /\ e.f.foot = foot X e.s e.o /\ e.f.w = e.r.up.map (·.1) /\ e.f.tk = e.r.dr ++ e.r.nk /\ e.f.res = resOf e.r /\
  (e.f.cl = true -> (∀ t ∈ e.o.looksAt ops, (pj e.o.op (e.s.env t)).whole = true) /\ ∀ id ∈ foot X e.s e.o, (e.s.hp id).whole = true) /\
  e.f.tch = lkOf ops e.o e.s ++ (foot X e.s e.o ++ (((foot X e.s e.o).flatMap fun id => (e.s.hp id).ids) ++ resOf e.r)))
theorem Qlt {α : Type} {f g : Nat -> α} {id : Nat} : ∀ {l : List (Nat × α)}, f id = g id -> updL f l id = updL g l id := by
 intro l
 induction l generalizing f g with
 | nil => exact fun h => h
 | cons x l ih =>
  intro h
  refine ih ?_
  unfold Go.Vm.upd
  rw [h]
theorem AV.scrub_id {D : List Nat} : ∀ {v : AV}, (∀ id ∈ v.ids, id ∉ D) -> v.scrub D = v
 | .pair a b, h => by simp only [AV.scrub]; rw [scrub_id fun id hid => h id (by simp [AV.ids, hid]), scrub_id fun id hid => h id (by simp [AV.ids, hid])]
 | .tcons a b, h => by simp only [AV.scrub]; rw [scrub_id fun id hid => h id (by simp [AV.ids, hid]), scrub_id fun id hid => h id (by simp [AV.ids, hid])]
 | .ptr id ix p, h => by simp only [AV.scrub]; rw [Qaq.2 (h id (by simp [AV.ids]))]; rfl
 | .sref id ix p, h => by simp only [AV.scrub]; rw [Qaq.2 (h id (by simp [AV.ids]))]; rfl
 | .fn f caps, h => by
  simp only [AV.scrub]
  rw [Qdo.2 fun id hid => h id (by simpa [AV.ids] using hid)]; rfl
 | .unk, _ => rfl
 | .val _ _, _ => rfl
 | .nilv _ _, _ => rfl
 | .iptr _ _, _ => rfl
 | .nq _, _ => rfl
 | .tnil, _ => rfl
theorem AV.killN_id {D : List Nat} : ∀ {v : AV}, (∀ id ∈ v.ids, id ∉ D) -> v.killN D = v
 | .pair a b, h => by simp only [AV.killN]; rw [killN_id fun id hid => h id (by simp [AV.ids, hid]), killN_id fun id hid => h id (by simp [AV.ids, hid])]
 | .tcons a b, h => by simp only [AV.killN]; rw [killN_id fun id hid => h id (by simp [AV.ids, hid]), killN_id fun id hid => h id (by simp [AV.ids, hid])]
 | .sref id none p, h => rfl
 | .sref id (some i) p, h => by simp only [AV.killN]; rw [Qaq.2 (h id (by simp [AV.ids]))]; rfl
 | .ptr _ _ _, _ => rfl
 | .fn _ _, _ => rfl
 | .unk, _ => rfl
 | .val _ _, _ => rfl
 | .nilv _ _, _ => rfl
 | .iptr _ _, _ => rfl
 | .nq _, _ => rfl
 | .tnil, _ => rfl
def AV.tkB (k : Bool) (D : List Nat) (v : AV) : AV := bif k then v.scrub D else v.killN D
theorem AV.tkB_id {k : Bool} {D : List Nat} {v : AV} (h : ∀ id ∈ v.ids, id ∉ D) : v.tkB k D = v := by
 cases k
 ·exact AV.killN_id h
 ·exact AV.scrub_id h
theorem AV.tkB_comm {k m : Bool} {D E : List Nat} : ∀ {v : AV}, (v.tkB k D).tkB m E = (v.tkB m E).tkB k D := by
 intro v
 induction v with
 | pair a b iha ihb => cases k <;> cases m <;> simp only [AV.tkB, cond_true, cond_false, AV.scrub, AV.killN] at iha ihb ⊢ <;> rw [iha, ihb]
 | tcons a b iha ihb => cases k <;> cases m <;> simp only [AV.tkB, cond_true, cond_false, AV.scrub, AV.killN] at iha ihb ⊢ <;> rw [iha, ihb]
 | ptr id ix p =>
  cases k <;> cases m <;> simp only [AV.tkB, cond_true, cond_false, AV.scrub, AV.killN] <;> cases h1 : mem id D <;> cases h2 : mem id E <;> simp [AV.scrub, AV.killN, h1, h2]
 | sref id ix p =>
  cases ix <;> cases k <;> cases m <;> simp only [AV.tkB, cond_true, cond_false, AV.scrub, AV.killN] <;> cases h1 : mem id D <;> cases h2 : mem id E <;> simp [AV.scrub, AV.killN, h1, h2]
 | fn f caps =>
  cases k <;> cases m <;> simp only [AV.tkB, cond_true, cond_false, AV.scrub, AV.killN] <;> cases h1 : disj caps D <;> cases h2 : disj caps E <;> simp [AV.scrub, AV.killN, h1, h2]
 | _ => cases k <;> cases m <;> rfl
theorem AV.tkB_whole {k : Bool} {D : List Nat} : ∀ {v : AV}, (v.tkB k D).whole = true -> v.tkB k D = v := by
 intro v
 induction v with
 | pair a b iha ihb =>
  intro h
  cases k <;> simp only [AV.tkB, cond_true, cond_false, AV.scrub, AV.killN, AV.whole, Bool.and_eq_true] at iha ihb h ⊢ <;> rw [iha h.1, ihb h.2]
 | tcons a b iha ihb =>
  intro h
  cases k <;> simp only [AV.tkB, cond_true, cond_false, AV.scrub, AV.killN, AV.whole, Bool.and_eq_true] at iha ihb h ⊢ <;> rw [iha h.1, ihb h.2]
 | ptr id ix p =>
  intro h
  cases k <;> simp only [AV.tkB, cond_true, cond_false, AV.scrub, AV.killN] at h ⊢
  cases hm : mem id D <;> rw [hm] at h <;> first | rfl | cases h
 | sref id ix p =>
  intro h
  cases ix <;> cases k <;> simp only [AV.tkB, cond_true, cond_false, AV.scrub, AV.killN] at h ⊢
  all_goals (cases hm : mem id D <;> rw [hm] at h <;> first | rfl | cases h)
 | fn f caps =>
  intro h
  cases k <;> simp only [AV.tkB, cond_true, cond_false, AV.scrub, AV.killN] at h ⊢
  cases hm : disj caps D <;> rw [hm] at h <;> first | rfl | cases h
 | _ => intro h; cases k <;> rfl
def Ob.tkB (k : Bool) (D : List Nat) (id : Nat) (o : Ob) : Ob := bif k && mem id D then .none else o.mapA (AV.tkB k D)
theorem Ob.tkB_id {k : Bool} {D : List Nat} {id : Nat} {o : Ob} (h : id ∉ D) (ho : ∀ j ∈ o.ids, j ∉ D) : o.tkB k D id = o := by
 unfold Ob.tkB
 rw [Qaq.2 h, Bool.and_false]
 cases o with
 | box S v => exact congrArg (Ob.box S) (AV.tkB_id ho)
 | _ => rfl
theorem Ob.tkB_none {k : Bool} {D : List Nat} {id : Nat} : (Ob.none).tkB k D id = .none := by
 unfold Ob.tkB; cases (k && mem id D) <;> rfl
theorem Ob.tkB_comm {k m : Bool} {D E : List Nat} {id : Nat} {o : Ob} : (o.tkB k D id).tkB m E id = (o.tkB m E id).tkB k D id := by
 cases h1 : (k && mem id D) <;> cases h2 : (m && mem id E) <;> simp only [Ob.tkB, h1, h2, cond_true, cond_false]
 ·cases o with
  | box S v => exact congrArg (Ob.box S) AV.tkB_comm
  | _ => rfl
 ·rfl
 ·rfl
theorem Ob.tkB_whole {k : Bool} {D : List Nat} {id : Nat} {o : Ob} (h : (o.tkB k D id).whole = true) : o.tkB k D id = o := by
 unfold Ob.tkB at h ⊢
 cases h1 : (k && mem id D) <;> rw [h1] at h
 ·cases o with
  | box S v => exact congrArg (Ob.box S) (AV.tkB_whole h)
  | _ => rfl
 ·cases h
theorem Qlc {k : Bool} {v : AV} : v.tkB k [] = v := AV.tkB_id (fun _ _ h => by cases h)
theorem Qjq {k : Bool} {id : Nat} {o : Ob} : o.tkB k [] id = o := Ob.tkB_id (fun h => by cases h) (fun _ _ h => by cases h)
theorem Qpn {D : List Nat} {s : St} {t : Nat} : (s.scrub D).env t = (s.env t).tkB true D := by
 cases D with
 | nil => exact Qlc.symm
 | cons x D => rfl
theorem Qq4 {D : List Nat} {s : St} {id : Nat} : (s.scrub D).hp id = (s.hp id).tkB true D id := by
 cases D with
 | nil => exact Qjq.symm
 | cons x D => rfl
theorem Qpo {D : List Nat} {s : St} {t : Nat} : (s.killN D).env t = (s.env t).tkB false D := by
 cases D with
 | nil => exact Qlc.symm
 | cons x D => rfl
theorem Qq5 {D : List Nat} {s : St} {id : Nat} : (s.killN D).hp id = (s.hp id).tkB false D id := by
 cases D with
 | nil => exact Qjq.symm
 | cons x D => rfl
def En.dr (e : En) : List Nat := bif e.W then e.r.dr else []
def En.nk (e : En) : List Nat := bif e.W then e.r.nk else []
def En.ups (e : En) : List (Nat × Ob) := bif e.W then e.r.up else []
def En.val (e : En) : AV := bif e.W then e.r.v else .tnil
def En.tk (e : En) : List Nat := e.dr ++ e.nk
theorem Qq6 {s : St} {dst : Option Nat} {v : AV} : (s.put dst v).hp = s.hp := by cases dst <;> rfl
theorem En.run_envE (e : En) {s : St} {t : Nat} : (e.run s).env t = if e.o.dst = some t then e.val else ((s.env t).tkB true e.dr).tkB false e.nk := by
 have hput : ∀ (s : St) (v : AV), (s.put e.o.dst v).env t = if e.o.dst = some t then v else s.env t := fun s v => by
  cases hd : e.o.dst with
  | none => simp [St.put]
  | some d =>
   by_cases h : d = t
   ·subst h; simp only [if_true]; exact Qa0 _ _ _
   ·rw [if_neg (by simpa using h)]; exact Qa5 _ _ (fun h' => h h'.symm)
 unfold En.run En.val En.dr En.nk
 cases e.W
 ·simp only [cond_false, Qlc]; exact hput _ _
 ·simp only [cond_true]
  refine (hput _ _).trans ?_
  show (if _ then _ else ((s.scrub e.r.dr).killN e.r.nk).env t) = _
  rw [Qpo, Qpn]
theorem En.run_hpE (e : En) {s : St} {id : Nat} : (e.run s).hp id = updL (fun id => ((s.hp id).tkB true e.dr id).tkB false e.nk id) e.ups id := by
 unfold En.run En.ups En.dr En.nk
 cases e.W
 ·simp only [cond_false, Qjq]
  show (s.put _ _).hp id = _
  rw [Qq6]; rfl
 ·simp only [cond_true]
  show (St.put _ _ _).hp id = _
  rw [Qq6]
  refine Qlt ?_
  rw [Qq5, Qq4]
theorem Qts {k : Bool} {D : List Nat} : ∀ {v : AV} {i : Nat}, extractAV (v.tkB k D) i = (extractAV v i).map (AV.tkB k D) := by
 intro v
 induction v with
 | tcons a b iha ihb =>
  intro i
  cases i with
  | zero => cases k <;> rfl
  | succ i => cases k <;> exact ihb
 | ptr id ix p => intro i; cases k <;> simp only [AV.tkB, cond_true, cond_false, AV.scrub, AV.killN] <;> (try cases mem id D) <;> rfl
 | sref id ix p => intro i; cases ix <;> cases k <;> simp only [AV.tkB, cond_true, cond_false, AV.scrub, AV.killN] <;> (try cases mem id D) <;> rfl
 | fn f caps => intro i; cases k <;> simp only [AV.tkB, cond_true, cond_false, AV.scrub, AV.killN] <;> (try cases disj caps D) <;> rfl
 | _ => intro i; cases k <;> rfl
theorem Qc0 {op : Op} {k : Bool} {D : List Nat} {v : AV} : pj op (v.tkB k D) = (pj op v).tkB k D := by
 cases op with
 | extract x i =>
  simp only [pj]
  rw [Qts]
  cases extractAV v i with
  | none => cases k <;> rfl
  | some u => rfl
 | _ => rfl
theorem En.gen_env (e : En) {op : Op} {s : St} {t : Nat} (ht : e.o.dst ≠ some t) (hi : ∀ id ∈ (pj op (s.env t)).ids, id ∉ e.tk) : pj op ((e.run s).env t) = pj op (s.env t) := by
 rw [e.run_envE, if_neg ht, Qc0, Qc0, AV.tkB_id (fun id hid h => hi id hid (by unfold En.tk; simp [h])), AV.tkB_id (fun id hid h => hi id hid (by unfold En.tk; simp [h]))]
theorem En.gen_hp (e : En) {s : St} {id : Nat} (hid : id ∉ e.ups.map (·.1)) (hi : id ∉ e.tk) (hj : ∀ j ∈ (s.hp id).ids, j ∉ e.tk) : (e.run s).hp id = s.hp id := by
 rw [e.run_hpE, Qbd _ _ hid, Ob.tkB_id (k := true) (fun h => hi (by unfold En.tk; simp [h])) (fun j hjj h => hj j hjj (by unfold En.tk; simp [h])),
  Ob.tkB_id (fun h => hi (by unfold En.tk; simp [h])) (fun j hjj h => hj j hjj (by unfold En.tk; simp [h]))]
theorem Qfr {f g : Nat -> Ob} {id : Nat} : ∀ {l : List (Nat × Ob)}, id ∈ l.map (·.1) -> ∃ q ∈ l, q.1 = id /\ updL f l id = q.2 /\ updL g l id = q.2
 | [], h => by simp at h
 | x :: l, h => by
  by_cases hl : id ∈ l.map (·.1)
  ·obtain ⟨q, h1, h2, h3, h4⟩ := Qfr (f := Go.Vm.upd f x.1 x.2) (g := Go.Vm.upd g x.1 x.2) hl
   exact ⟨q, by simp [h1], h2, h3, h4⟩
  ·simp only [List.map_cons, List.mem_cons] at h
   have hx : id = x.1 := h.resolve_right hl
   refine ⟨x, by simp, hx.symm, ?_, ?_⟩
   ·show updL (Go.Vm.upd f x.1 x.2) l id = _
    rw [Qbd _ _ hl, hx]; exact Qa0 _ _ _
   ·show updL (Go.Vm.upd g x.1 x.2) l id = _
    rw [Qbd _ _ hl, hx]; exact Qa0 _ _ _
def En.res (e : En) : List Nat := e.ups.map (·.1) ++ ((e.ups.flatMap fun q => q.2.ids) ++ e.val.ids)
theorem En.comm (e f : En) (he : ∀ id ∈ e.tk, id ∉ f.res) (hf : ∀ id ∈ f.tk, id ∉ e.res) (hd : ∀ d, e.o.dst = some d -> f.o.dst ≠ some d) (hk : ∀ id ∈ e.ups.map (·.1), id ∉ f.ups.map (·.1)) (s : St) : e.run (f.run s) = f.run (e.run s) := by
 have hval : ∀ (a b : En), (∀ id ∈ a.tk, id ∉ b.res) -> (b.val.tkB true a.dr).tkB false a.nk = b.val := fun a b h => by
  have key : ∀ id ∈ b.val.ids, id ∉ a.tk := fun id hid hin => h id hin (by unfold En.res; simp [hid])
  rw [AV.tkB_id (fun id hid h => key id hid (by unfold En.tk; simp [h])), AV.tkB_id (fun id hid h => key id hid (by unfold En.tk; simp [h]))]
 have hob : ∀ (a b : En), (∀ id ∈ a.tk, id ∉ b.res) -> ∀ q ∈ b.ups, (q.2.tkB true a.dr q.1).tkB false a.nk q.1 = q.2 := fun a b h q hq => by
  have k1 : q.1 ∉ a.tk := fun hin => h _ hin (by unfold En.res; simp only [List.mem_append]; exact .inl (List.mem_map.2 ⟨q, hq, rfl⟩))
  have k2 : ∀ j ∈ q.2.ids, j ∉ a.tk := fun j hj hin => h _ hin (by unfold En.res; simp only [List.mem_append, List.mem_flatMap]; exact .inr (.inl ⟨q, hq, hj⟩))
  rw [Ob.tkB_id (fun h => k1 (by unfold En.tk; simp [h])) (fun j hj h => k2 j hj (by unfold En.tk; simp [h])), Ob.tkB_id (fun h => k1 (by unfold En.tk; simp [h])) (fun j hj h => k2 j hj (by unfold En.tk; simp [h]))]
 have h1 : (e.run (f.run s)).env = (f.run (e.run s)).env := by
  funext t
  rw [e.run_envE, f.run_envE, f.run_envE, e.run_envE]
  by_cases h1 : e.o.dst = some t
  ·rw [if_pos h1, if_neg (hd t h1), if_pos h1, hval f e hf]
  ·by_cases h2 : f.o.dst = some t
   ·rw [if_neg h1, if_pos h2, if_pos h2, hval e f he]
   ·rw [if_neg h1, if_neg h2, if_neg h2, if_neg h1]
    rw [AV.tkB_comm (k := false) (m := true), AV.tkB_comm (k := true) (m := true), AV.tkB_comm (k := false) (m := false), AV.tkB_comm (v := (s.env t).tkB true e.dr) (k := true) (m := false)]
 have h2 : (e.run (f.run s)).hp = (f.run (e.run s)).hp := by
  funext id
  rw [e.run_hpE, f.run_hpE]
  by_cases h1 : id ∈ e.ups.map (·.1)
  ·have h2 := hk id h1
   rw [Qbd f.ups _ h2, e.run_hpE]
   obtain ⟨q, q1, q2, q3, q4⟩ := Qfr (f := fun id => (((f.run s).hp id).tkB true e.dr id).tkB false e.nk id) (g := fun id => ((s.hp id).tkB true e.dr id).tkB false e.nk id) h1
   rw [q3, q4, <- q2, hob f e hf q q1]
  ·rw [Qbd e.ups _ h1, f.run_hpE]
   by_cases h2 : id ∈ f.ups.map (·.1)
   ·obtain ⟨q, q1, q2, q3, q4⟩ := Qfr (f := fun id => ((s.hp id).tkB true f.dr id).tkB false f.nk id) (g := fun id => (((e.run s).hp id).tkB true f.dr id).tkB false f.nk id) h2
    rw [q3, q4, <- q2, hob e f he q q1]
   ·rw [Qbd f.ups _ h2, Qbd f.ups _ h2, e.run_hpE, Qbd e.ups _ h1]
    rw [Ob.tkB_comm (k := false) (m := true), Ob.tkB_comm (k := true) (m := true), Ob.tkB_comm (k := false) (m := false), Ob.tkB_comm (o := (s.hp id).tkB true e.dr id) (k := true) (m := false)]
 cases h3 : e.run (f.run s)
 cases h4 : f.run (e.run s)
 rw [h3, h4] at h1 h2
 simp only at h1 h2
 rw [h1, h2]
def prodS (S : Nat -> Bool) : List En -> Nat -> St -> St
 | [], _, s => s
 | e :: es, i, s => prodS S es (i + 1) (bif S i then e.run s else s)
def Chain : List En -> St -> St -> Prop
 | [], s, s' => s = s'
 | e :: es, s, s' => e.s = s /\ Chain es (e.run s) s'
theorem Qlu {S : Nat -> Bool} : ∀ {es : List En} {i : Nat} {s s' : St}, Chain es s s' -> (∀ k, i <= k -> k < i + es.length -> S k = true) -> prodS S es i s = s'
 | [], i, s, s', h, _ => h
 | e :: es, i, s, s', h, hS => by
  simp only [prodS]
  rw [hS i (Nat.le_refl _) (by simp)]
  exact Qlu h.2 (fun k h1 h2 => hS k (by omega) (by simp only [List.length_cons]; omega))
def En.Gent (e : En) (op : Op) (L T : List Nat) (s0 : St) : Prop :=
 (∀ t ∈ T, e.o.dst ≠ some t) /\ (∀ id ∈ L, id ∉ e.ups.map (·.1)) /\ (∀ t ∈ T, ∀ id ∈ (pj op (s0.env t)).ids, id ∉ e.tk) /\ ∀ id ∈ L, id ∉ e.tk /\ ∀ j ∈ (s0.hp id).ids, j ∉ e.tk
theorem Qg6 {S : Nat -> Bool} {op : Op} {L T : List Nat} {s0 : St} : ∀ {es : List En} {i : Nat} {s : St}, View (pj op) L T s0 s ->
  (∀ k e, es[k]? = some e -> S (i + k) = true -> e.Gent op L T s0) -> View (pj op) L T s0 (prodS S es i s)
 | [], i, s, h, _ => h
 | e :: es, i, s, h, hS => by
  simp only [prodS]
  refine Qg6 ?_ (fun k e' hk hSk => hS (k + 1) e' (by simpa using hk) (by rw [show i + (k + 1) = i + 1 + k by omega]; exact hSk))
  cases hSi : S i
  ·exact h
  ·obtain ⟨h1, h2, h3, h4⟩ := hS 0 e rfl (by simpa using hSi)
   refine ⟨fun t ht => ?_, fun id hid => ?_⟩
   ·rw [cond_true, e.gen_env (h1 t ht) (by rw [h.1 t ht]; exact h3 t ht)]; exact h.1 t ht
   ·rw [cond_true, e.gen_hp (h2 id hid) (h4 id hid).1 (by rw [h.2 id hid]; exact (h4 id hid).2)]; exact h.2 id hid
inductive Fil : AV -> AV -> Prop where
 | refl (v : AV) : Fil v v
 | tk {v v' : AV} (k : Bool) (D : List Nat) : Fil v v' -> Fil (v.tkB k D) v'
theorem Fil.both {k : Bool} {D : List Nat} {v v' : AV} (h : Fil v v') : Fil (v.tkB k D) (v'.tkB k D) := by
 induction h with
 | refl v => exact .refl _
 | tk m E _ ih => rw [AV.tkB_comm]; exact .tk m E ih
theorem Fil.whole {v v' : AV} (h : Fil v v') (hw : v.whole = true) : v = v' := by
 induction h with
 | refl v => rfl
 | tk m E _ ih =>
  have := AV.tkB_whole hw
  rw [this] at hw ⊢
  exact ih hw
inductive FilO (id : Nat) : Ob -> Ob -> Prop where
 | refl (v : Ob) : FilO id v v
 | tk {v v' : Ob} (k : Bool) (D : List Nat) : FilO id v v' -> FilO id (v.tkB k D id) v'
theorem FilO.both {id : Nat} {k : Bool} {D : List Nat} {v v' : Ob} (h : FilO id v v') : FilO id (v.tkB k D id) (v'.tkB k D id) := by
 induction h with
 | refl v => exact .refl _
 | tk m E _ ih => rw [Ob.tkB_comm]; exact .tk m E ih
theorem FilO.whole {id : Nat} {v v' : Ob} (h : FilO id v v') (hw : v.whole = true) : v = v' := by
 induction h with
 | refl v => rfl
 | tk m E _ ih =>
  have := Ob.tkB_whole hw
  rw [this] at hw ⊢
  exact ih hw
theorem Qek {S : Nat -> Bool} {op : Op} {L T : List Nat} {ej : En} {rest : List En} : ∀ {es : List En} {i : Nat} {s s' : St} {z : St}, Chain (es ++ ej :: rest) s z ->
  (∀ t ∈ T, Fil (pj op (s.env t)) (pj op (s'.env t))) -> (∀ id ∈ L, FilO id (s.hp id) (s'.hp id)) ->
  (∀ k e, es[k]? = some e -> S (i + k) = false -> (∀ t ∈ T, e.o.dst ≠ some t) /\ ∀ id ∈ L, id ∉ e.ups.map (·.1)) ->
  (∀ t ∈ T, Fil (pj op (ej.s.env t)) (pj op ((prodS S es i s').env t))) /\ ∀ id ∈ L, FilO id (ej.s.hp id) ((prodS S es i s').hp id)
 | [], i, s, s', z, hc, h1, h2, _ => by
  rw [hc.1]; exact ⟨h1, h2⟩
 | e :: es, i, s, s', z, hc, h1, h2, hS => by
  simp only [prodS]
  have hr : ∀ k e', es[k]? = some e' -> S (i + 1 + k) = false -> _ := fun k e' hk hSk => hS (k + 1) e' (by simpa using hk) (by rw [show i + (k + 1) = i + 1 + k by omega]; exact hSk)
  cases hSi : S i
  ·obtain ⟨g1, g2⟩ := hS 0 e rfl (by simpa using hSi)
   refine Qek hc.2 (fun t ht => ?_) (fun id hid => ?_) hr
   ·rw [cond_false, e.run_envE, if_neg (g1 t ht), Qc0, Qc0]
    exact .tk _ _ (.tk _ _ (h1 t ht))
   ·rw [cond_false, e.run_hpE, Qbd _ _ (g2 id hid)]
    exact .tk _ _ (.tk _ _ (h2 id hid))
  ·refine Qek hc.2 (fun t ht => ?_) (fun id hid => ?_) hr
   ·rw [cond_true, e.run_envE, e.run_envE]
    by_cases hd : e.o.dst = some t
    ·rw [if_pos hd, if_pos hd]; exact .refl _
    ·rw [if_neg hd, if_neg hd, Qc0, Qc0, Qc0, Qc0]; exact (h1 t ht).both.both
   ·rw [cond_true, e.run_hpE, e.run_hpE]
    by_cases hm : id ∈ e.ups.map (·.1)
    ·obtain ⟨q, _, _, q3, q4⟩ := Qfr (f := fun id => ((s.hp id).tkB true e.dr id).tkB false e.nk id) (g := fun id => ((s'.hp id).tkB true e.dr id).tkB false e.nk id) hm
     rw [q3, q4]; exact .refl _
    ·rw [Qbd _ _ hm, Qbd _ _ hm]; exact (h2 id hid).both.both
theorem Qd3 {k : Bool} {D : List Nat} {id : Nat} {o : Ob} : o.tkB k D id = .none ↔ o = .none ∨ (k && mem id D) = true := by
 unfold Ob.tkB
 cases h : (k && mem id D) <;> cases o <;> simp [Ob.mapA]
theorem Qi2 {S : Nat -> Bool} {L : List Nat} {ej : En} {rest : List En} : ∀ {es : List En} {i : Nat} {s s' : St} {z : St}, Chain (es ++ ej :: rest) s z -> (∀ id ∈ L, s.hp id = .none -> s'.hp id = .none) ->
  (∀ k e, es[k]? = some e -> S (i + k) = false -> ∀ id ∈ L, id ∉ e.ups.map (·.1) /\ id ∉ e.tk) -> ∀ id ∈ L, ej.s.hp id = .none -> (prodS S es i s').hp id = .none
 | [], i, s, s', z, hc, h, _ => by
  rw [hc.1]; exact h
 | e :: es, i, s, s', z, hc, h, hS => by
  simp only [prodS]
  have hr : ∀ k e', es[k]? = some e' -> S (i + 1 + k) = false -> _ := fun k e' hk hSk => hS (k + 1) e' (by simpa using hk) (by rw [show i + (k + 1) = i + 1 + k by omega]; exact hSk)
  refine Qi2 hc.2 (fun id hid hn => ?_) hr
  rw [e.run_hpE] at hn
  cases hSi : S i
  ·obtain ⟨g1, g2⟩ := hS 0 e rfl (by simpa using hSi) id hid
   rw [cond_false]
   rw [Qbd _ _ g1, Qd3, Qd3] at hn
   rcases hn with (hn | hn) | hn
   ·exact h id hid hn
   ·rw [Bool.true_and] at hn
    exact absurd (Qav.1 hn) (fun hh => g2 (by unfold En.tk; simp [hh]))
   ·cases hn
  ·rw [cond_true, e.run_hpE]
   by_cases hm : id ∈ e.ups.map (·.1)
   ·obtain ⟨q, _, _, q3, q4⟩ := Qfr (f := fun id => ((s.hp id).tkB true e.dr id).tkB false e.nk id) (g := fun id => ((s'.hp id).tkB true e.dr id).tkB false e.nk id) hm
    rw [q3] at hn; rw [q4]; exact hn
   ·rw [Qbd _ _ hm, Qd3, Qd3] at hn ⊢
    exact hn.imp (fun hn => hn.imp (h id hid) (fun h => h)) (fun h => h)
theorem Qh3 {S : Nat -> Bool} {op : Op} {L T : List Nat} {ej : En} {rest : List En} : ∀ {es : List En} {i : Nat} {s s' : St} {z : St}, Chain (es ++ ej :: rest) s z -> View (pj op) L T s s' ->
  (∀ k e, es[k]? = some e -> S (i + k) = false -> e.tk = [] /\ (∀ t ∈ T, e.o.dst ≠ some t) /\ ∀ id ∈ L, id ∉ e.ups.map (·.1)) -> View (pj op) L T ej.s (prodS S es i s')
 | [], i, s, s', z, hc, h, _ => by
  rw [hc.1]; exact h
 | e :: es, i, s, s', z, hc, h, hS => by
  simp only [prodS]
  refine Qh3 hc.2 ?_ (fun k e' hk hSk => hS (k + 1) e' (by simpa using hk) (by rw [show i + (k + 1) = i + 1 + k by omega]; exact hSk))
  cases hSi : S i
  ·obtain ⟨h0, h1, h2⟩ := hS 0 e rfl (by simpa using hSi)
   have hno : ∀ {id : Nat}, id ∉ e.tk := fun h => by rw [h0] at h; cases h
   exact ⟨fun t ht => by rw [cond_false, e.gen_env (h1 t ht) (fun _ _ => hno)]; exact h.1 t ht, fun id hid => by rw [cond_false, e.gen_hp (h2 id hid) hno (fun _ _ => hno)]; exact h.2 id hid⟩
  ·refine ⟨fun t ht => ?_, fun id hid => ?_⟩
   ·rw [cond_true, e.run_envE, e.run_envE]
    by_cases hd : e.o.dst = some t
    ·rw [if_pos hd, if_pos hd]
    ·rw [if_neg hd, if_neg hd, Qc0, Qc0, Qc0, Qc0, h.1 t ht]
   ·rw [cond_true, e.run_hpE, e.run_hpE]
    exact Qlt (by rw [h.2 id hid])
theorem Qh4 {S : Nat -> Bool} : ∀ {es fs : List En} {i : Nat} {s : St}, prodS S (es ++ fs) i s = prodS S fs (i + es.length) (prodS S es i s)
 | [], fs, i, s => rfl
 | e :: es, fs, i, s => by
  simp only [List.cons_append, prodS, List.length_cons]
  rw [Qh4, show i + 1 + es.length = i + (es.length + 1) by omega]
theorem Qge {S S' : Nat -> Bool} : ∀ {es : List En} {i : Nat} {s : St}, (∀ k, i <= k -> k < i + es.length -> S k = S' k) -> prodS S es i s = prodS S' es i s
 | [], _, _, _ => rfl
 | e :: es, i, s, h => by
  simp only [prodS]
  rw [h i (Nat.le_refl _) (by simp), Qge (fun k h1 h2 => h k (by omega) (by simp only [List.length_cons]; omega))]
theorem Qkh {S : Nat -> Bool} {ej : En} : ∀ {es : List En} {i : Nat} {s : St}, (∀ k e, es[k]? = some e -> S (i + k) = true -> ∀ s, ej.run (e.run s) = e.run (ej.run s)) -> ej.run (prodS S es i s) = prodS S es i (ej.run s)
 | [], _, _, _ => rfl
 | e :: es, i, s, h => by
  simp only [prodS]
  rw [Qkh (fun k e' hk hSk => h (k + 1) e' (by simpa using hk) (by rw [show i + (k + 1) = i + 1 + k by omega]; exact hSk))]
  cases hSi : S i
  ·rfl
  ·simp only [cond_true]
   rw [h 0 e rfl (by simpa using hSi)]
end Go.Vm
