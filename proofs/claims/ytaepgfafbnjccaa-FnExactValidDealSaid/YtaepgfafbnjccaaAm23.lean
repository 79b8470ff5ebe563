/- Rules for functions that make memory: slices made, filled, appended to; loops and calls that make; what is returned. For every program. No condition beyond each theorem's own. -/
import Derived.Test.YtaepgfafbnjccaaAm22
set_option linter.unusedSimpArgs false
set_option linter.unusedVariables false
namespace Go.Proofs.Ytaepgfafbnjccaa.Am
open Go Go.RowKit
section
variable {P : Program} {S : Ids} {H0 : AH} {Q : PostC} {k k1 k2 : List It} {e e1 e2 : Env} {T T1 T2 : List Var} {n n1 n2 : Nat} {l1 r1 l2 r2 : List Nat} {d1 d2 : Tmp}
theorem fill_seq (z : Value) : ∀ (vs pre : List Value), (∀ v ∈ vs, v.cells = #[v]) → Instr.fill (fun j => some (j * 1, 1)) (pre ++ List.replicate vs.length z).toArray ((vs.zipIdx pre.length).map fun p => (p.2, p.1)) = some (pre ++ vs).toArray
  | [], pre, _ => by simp [Instr.fill]
  | v :: vs, pre, h => by
    have hv := h v List.mem_cons_self
    have ih := fill_seq z vs (pre ++ [v]) (fun u hu => h u (List.mem_cons_of_mem _ hu))
    simp only [List.zipIdx_cons, List.map_cons, Instr.fill, hv]
    rw [if_neg (by simp)]
    have e1 : (Array.foldl (fun cs x => cs.setIfInBounds (pre.length * 1 + x.2) x.1) (pre ++ List.replicate (v :: vs).length z).toArray (#[v] : Array Value).zipIdx) = (pre ++ [v] ++ List.replicate vs.length z).toArray := by
      have e0 : (#[v] : Array Value).zipIdx = #[(v, 0)] := rfl
      rw [e0]
      simp [List.replicate_succ]
    rw [e1]
    simpa using ih
theorem zarr_one (z : Value) (hz : z.cells = #[z]) (m : Nat) : zarr z m = (List.replicate m z).toArray := by
  apply Array.ext
  · simp [zarr]
  · intro i h1 h2
    simp [zarr, hz, Nat.mod_one]
theorem alit_seq {H : AH} {t el : TypeId} {i : TypeInfo} {z : Value} (hu : P.underlying t = some (.slice el)) (hi : P.info? el = some i) (hs : i.size = 1) (hz : i.zero = some z) (hz1 : z.cells = #[z]) (hzo : zeroOk P el = true) (vs : List Value) (hl : vs.length ≤ 16777216) (hv : ∀ v ∈ vs, v.cells = #[v]) :
    alit P H t vs.length (vs.zipIdx.map fun p => (p.2, p.1)) = some (.slice (some ⟨H.n, 0, some 1⟩) vs.length vs.length, H.push ⟨el, true, vs⟩) := by
  have h0 := fill_seq z vs [] hv
  simp only [List.nil_append, List.length_nil] at h0
  unfold alit
  simp only [hu, hi, hz, hs]
  rw [if_pos ⟨hzo, by omega⟩, Nat.mul_one, zarr_one z hz1, h0]
  simp
/-- What every good memory shows. -/
theorem KW.fact {p : Prop} (h : ∀ H, Good S H0 T n H → p) (hk : p → KW P S H0 Q n T k e) : KW P S H0 Q n T k e := fun H g => hk (h H g) H g
/-- Good memories with less spoken of. -/
theorem Good.take {S : Ids} {H0 H : AH} {T : List Var} {n : Nat} (g : Good S H0 T n H) (m : Nat) : Good S H0 (T.take m) n H := by
  have h : ∀ {j : Nat} {v : Var}, (T.take m)[j]? = some v → T[j]? = some v := fun {j v} hj => by
    rw [List.getElem?_take] at hj
    split at hj
    · exact hj
    · cases hj
  exact ⟨g.n_, g.fin, g.froz, fun j v hj => g.vars j v (h hj), fun i j u v hi hj => g.dist i j u v (h hi) (h hj)⟩
/-- A block is left, and another one is named in its place. -/
theorem Good.move {S : Ids} {H0 H : AH} {T : List Var} {n : Nat} (g : Good S H0 T n H) {j : Nat} {v : Var} (hj : T[j]? = some v) (b : Blk) : Good S H0 (T.set j (n, b)) (n + 1) ((H.kill v.1).push b) := by
  have hn := g.n_
  have hjl : j < T.length := (List.getElem?_eq_some_iff.1 hj).1
  obtain ⟨hv1, hv2, hv3⟩ := g.vars j v hj
  have get : ∀ {i : Nat} {u : Var}, (T.set j (n, b))[i]? = some u → (i = j ∧ u = (n, b)) ∨ (i ≠ j ∧ T[i]? = some u) := by
    intro i u hi
    by_cases h : j = i
    · subst h
      rw [List.getElem?_set_self hjl] at hi
      cases hi
      exact .inl ⟨rfl, rfl⟩
    · rw [List.getElem?_set_ne h] at hi
      exact .inr ⟨Ne.symm h, hi⟩
  have hm : ∀ id, id ≠ n → id ≠ v.1 → ((H.kill v.1).push b).m id = H.m id := fun id h1 h2 => by
    have : ¬ id = H.n := by omega
    simp [AH.push, AH.kill, this, h2]
  refine ⟨by simp [AH.push, AH.kill, hn], fin_push (fin_kill g.fin _) b, ?_, ?_, ?_⟩
  · intro id hs
    obtain ⟨h1, h2⟩ := g.froz id hs
    refine ⟨by omega, ?_⟩
    rw [hm id (by omega) (fun e => hv3 (by rw [← e]; exact hs))]
    exact h2
  · intro i u hi
    rcases get hi with ⟨_, rfl⟩ | ⟨hne, hi⟩
    · refine ⟨by simp [AH.push, AH.kill, hn], by simp, fun hs => ?_⟩
      have := (g.froz n hs).1
      omega
    · obtain ⟨h1, h2, h3⟩ := g.vars i u hi
      refine ⟨?_, by omega, h3⟩
      rw [hm u.1 (by omega) (fun e => hne (g.dist i j u v hi hj e))]
      exact h1
  · intro i1 i2 u1 u2 h1 h2 he
    rcases get h1 with ⟨e1, rfl⟩ | ⟨hne1, h1⟩ <;> rcases get h2 with ⟨e2, rfl⟩ | ⟨hne2, h2⟩
    · omega
    · have := (g.vars i2 u2 h2).2.1
      simp only at he
      omega
    · have := (g.vars i1 u1 h1).2.1
      simp only at he
      omega
    · exact g.dist i1 i2 u1 u2 h1 h2 he
/-- A variable's block. -/
theorem Good.blk {S : Ids} {H0 H : AH} {T : List Var} {n : Nat} (g : Good S H0 T n H) {j : Nat} {id : Nat} {b : Blk} (hj : T[j]? = some (id, b)) : H.m id = some b ∧ id < H.n := ⟨(g.vars j _ hj).1, by rw [g.n_]; exact (g.vars j _ hj).2.1⟩
/-- A slice is made. -/
theorem KW.mk1 {o : Oper} {dr : Bool} {t el : TypeId} {l c : Operand} {inf : TypeInfo} {z : Value} {kk kk' : IntKind} {i i' : Int} (h : Go1 P k e T n (.op o dr) k1 e1 T1 n1 l1 r1) (hlr : l1 = r1) (ho : o.op = .makeSlice t l c) (hd : o.dst = some d1)
    (hu : P.underlying t = some (.slice el)) (hi : P.info? el = some inf) (hs : inf.size = 1) (hz : inf.zero = some z) (hz1 : z.cells = #[z]) (hzo : zeroOkL P el = true) (hl : ev e1 l = .int kk i) (hc : ev e1 c = .int kk' i') (m : Nat) (hi1 : i = m) (hi2 : i' = m) (hm : m ≤ 9223372036854775807) (hb : inf.bytes * m ≤ 281474976710656)
    (hk : KW P S H0 Q (n1 + 1) (T1 ++ [(n1, ⟨el, true, List.replicate m z⟩)]) k1 (put1 e1 d1 (.slice (some ⟨n1, 0, some 1⟩) m m))) : KW P S H0 Q n T k e := by
  refine KW.go h hlr (KEvt.heap (c := ⟨_, _, _, _, _, _⟩) _ _ _ (by rw [ho]; exact .inl rfl) (fun H g => ⟨none, _, ?_, g.push _⟩) (by rw [hd, put1_eq]; exact hk))
  subst hi1 hi2
  rw [ho]
  simp only [hop, hl, hc, amake, hu, hi, hz, hs]
  rw [if_pos ⟨zeroOkL_ok hzo, trivial, by omega, by omega, by rw [← Int.natCast_mul]; omega⟩]
  simp only [Int.toNat_natCast, Nat.mul_one, zarr_one z hz1, g.n_]
theorem KW.lit {o : Oper} {dr : Bool} {t el : TypeId} {m : Nat} {parts : Array (Nat × Operand)} {inf : TypeInfo} {z : Value} (h : Go1 P k e T n (.op o dr) k1 e1 T1 n1 l1 r1) (hlr : l1 = r1) (ho : o.op = .buildSlice t m parts) (hd : o.dst = some d1)
    (hu : P.underlying t = some (.slice el)) (hi : P.info? el = some inf) (hs : inf.size = 1) (hz : inf.zero = some z) (hz1 : z.cells = #[z]) (hzo : zeroOkL P el = true) (vs : List Value) (hp : (parts.toList.map fun p => (p.1, ev e1 p.2)) = vs.zipIdx.map fun p => (p.2, p.1)) (hm : m = vs.length) (hv : ∀ v ∈ vs, v.cells = #[v]) (hle : Nat.ble vs.length 16777216 = true)
    (hk : KW P S H0 Q (n1 + 1) (T1 ++ [(n1, ⟨el, true, vs⟩)]) k1 (put1 e1 d1 (.slice (some ⟨n1, 0, some 1⟩) vs.length vs.length))) : KW P S H0 Q n T k e := by
  refine KW.go h hlr (KEvt.heap (c := ⟨_, _, _, _, _, _⟩) _ _ _ (by rw [ho]; exact .inl rfl) (fun H g => ⟨none, _, ?_, g.push _⟩) (by rw [hd, put1_eq]; exact hk))
  rw [ho]
  simp only [hop, hp, hm]
  rw [alit_seq hu hi hs hz hz1 (zeroOkL_ok hzo) vs (Nat.le_of_ble_eq_true hle) hv, g.n_]
/-- The address of an element of a slice whose block is known. -/
theorem KW.idx0 {o : Oper} {dr : Bool} {t el : TypeId} {x i : Operand} {inf : TypeInfo} {kk : IntKind} {j : Int} {id off es len c : Nat} (h : Go1 P k e T n (.op o dr) k1 e1 T1 n1 l1 r1) (hlr : l1 = r1) (ho : o.op = .indexAddr t x i) (hd : o.dst = some d1) (hx : ev e1 x = .slice (some ⟨id, off, some es⟩) len c) (hj : ev e1 i = .int kk j)
    (hu : P.underlying t = some (.slice el)) (hi : P.info? el = some inf) (he : inf.size = es) (h0 : 0 ≤ j) (h1 : j < len) (hk : KW P S H0 Q n1 T1 k1 (put1 e1 d1 (.pointer (some ⟨id, off + j.toNat * es, none⟩)))) : KW P S H0 Q n T k e := by
  refine KW.pure h hlr ho hd rfl _ ?_ hk
  simp only [pop, hu, hx, hj, hi, he]
  rw [if_pos ⟨h0, h1⟩]
/-- A cell of a variable's block is written. -/
theorem KW.st1 {o : Oper} {dr : Bool} {t : TypeId} {x y : Operand} {inf : TypeInfo} {id kk : Nat} {sp : Option Nat} {b : Blk} {v : Value} (j : Nat) (h : Go1 P k e T n (.op o dr) k1 e1 T1 n1 l1 r1) (hlr : l1 = r1) (ho : o.op = .store t x y) (hd : o.dst = none) (hx : ev e1 x = .pointer (some ⟨id, kk, sp⟩)) (hT : T1[j]? = some (id, b))
    (hy : ev e1 y = v) (hi : P.info? t = some inf) (hs : inf.size = 1) (hv : v.cells = #[v]) (ho1 : v.oneCell' = true) (hrw : b.rw = true) (hlt : kk < b.cells.length)
    (hk : KW P S H0 Q n1 (T1.set j (id, ⟨b.ty, true, b.cells.set kk v⟩)) k1 e1) : KW P S H0 Q n T k e := by
  refine KW.go h hlr (KEvt.heap (c := ⟨_, _, _, _, _, _⟩) undef (T1.set j (id, ⟨b.ty, true, b.cells.set kk v⟩)) n1 (by rw [ho]; exact .inr rfl) (fun H g => ⟨none, H.set id ⟨b.ty, true, b.cells.set kk v⟩, ?_, g.set hT _⟩) (by rw [hd]; exact hk))
  rw [ho]
  have hb := (g.blk hT).1
  have hst : astore P H t id kk v = some (H.set id ⟨b.ty, true, b.cells.set kk v⟩) := by
    unfold astore
    simp only [hb, hi, hs, hv]
    rw [if_pos ⟨hrw, rfl, by omega, by simp [ho1]⟩]
    congr 2
    rw [hrw]
    congr 1
    simp only [splice]
    rw [List.set_eq_take_append_cons_drop, if_pos hlt]
    simp
  simp only [hop, hx, hy, hst]
/-- What stands in a variable's block. -/
theorem KW.ldT {o : Oper} {dr : Bool} {t : TypeId} {x : Operand} {id kk : Nat} {sp : Option Nat} {b : Blk} {v : Value} (j : Nat) (h : Go1 P k e T n (.op o dr) k1 e1 T1 n1 l1 r1) (hlr : l1 = r1) (ho : o.op = .load t x) (hd : o.dst = some d1) (hx : ev e1 x = .pointer (some ⟨id, kk, sp⟩)) (hT : T1[j]? = some (id, b)) (hv : bload P b t kk = some v)
    (hk : KW P S H0 Q n1 T1 k1 (put1 e1 d1 v)) : KW P S H0 Q n T k e := by
  refine KW.go h hlr (KEvt.heap (c := ⟨_, _, _, _, _, _⟩) v T1 n1 (by rw [ho]; exact .inl rfl) (fun H g => ⟨none, H, ?_, g⟩) (by rw [hd, put1_eq]; exact hk))
  rw [ho]
  simp only [hop, hx, bload_ok (g.blk hT).1, hv]
/-- append to nil. -/
theorem KW.appN {o : Oper} {dr : Bool} {t el : TypeId} {x y : Operand} {inf : TypeInfo} {m : Nat} {ys : List Value} (h : Go1 P k e T n (.op o dr) k1 e1 T1 n1 l1 r1) (hlr : l1 = r1) (ho : o.op = .call { callee := .builtin .append, args := #[x, y], argTypes := #[t, t] }) (hd : o.dst = some d1) (hx : ev e1 x = .slice none 0 0)
    (hu : P.underlying t = some (.slice el)) (hi : P.info? el = some inf) (hs : inf.size = 1) (hzo : zeroOkL P el = true) (hy : ∀ H, Good S H0 T1 n1 H → acells H (ev e1 y) 1 = some (m, ys)) (hone : ∀ v ∈ ys, v.oneCell' = true) (hm : m ≠ 0) (hb : m * inf.bytes ≤ 140737488355328) (hml : m ≤ 9223372036854775807)
    (hk : KW P S H0 Q (n1 + 1) (T1 ++ [(n1, ⟨el, true, ys⟩)]) k1 (put1 e1 d1 (.slice (some ⟨n1, 0, some 1⟩) m m))) : KW P S H0 Q n T k e := by
  refine KW.go h hlr (KEvt.heap (c := ⟨_, _, _, _, _, _⟩) _ _ _ (by rw [ho]; exact .inr rfl) (fun H g => ⟨none, _, ?_, g.push _⟩) (by rw [hd, put1_eq]; exact hk))
  rw [ho]
  have h1 := hy H g
  simp only [hop, aappend, hu, hi, hs, hx, h1]
  rw [if_pos trivial, if_pos ⟨zeroOkL_ok hzo, by omega, List.all_eq_true.2 hone⟩, if_neg hm, if_pos ⟨hml, hb⟩, g.n_]
/-- append to what one has made. -/
theorem KW.appT {o : Oper} {dr : Bool} {t el : TypeId} {x y : Operand} {inf : TypeInfo} {m len c id : Nat} {xs ys : List Value} (j : Nat) (h : Go1 P k e T n (.op o dr) k1 e1 T1 n1 l1 r1) (hlr : l1 = r1) (ho : o.op = .call { callee := .builtin .append, args := #[x, y], argTypes := #[t, t] }) (hd : o.dst = some d1) (hx : ev e1 x = .slice (some ⟨id, 0, some 1⟩) len c) (hT : T1[j]? = some (id, ⟨el, true, xs⟩))
    (hu : P.underlying t = some (.slice el)) (hi : P.info? el = some inf) (hs : inf.size = 1) (hzo : zeroOkL P el = true) (hy : ∀ H, Good S H0 T1 n1 H → acells H (ev e1 y) 1 = some (m, ys)) (hlen : xs.length = len) (hone : ∀ v ∈ ys, v.oneCell' = true) (hm : m ≠ 0) (hb : (len + m) * inf.bytes ≤ 140737488355328) (hml : len + m ≤ 9223372036854775807)
    (hk : KW P S H0 Q (n1 + 1) (T1.set j (n1, ⟨el, true, xs ++ ys⟩)) k1 (put1 e1 d1 (.slice (some ⟨n1, 0, some 1⟩) (len + m) (len + m)))) : KW P S H0 Q n T k e := by
  refine KW.go h hlr (KEvt.heap (c := ⟨_, _, _, _, _, _⟩) _ _ _ (by rw [ho]; exact .inr rfl) (fun H g => ⟨none, _, ?_, g.move hT _⟩) (by rw [hd, put1_eq]; exact hk))
  rw [ho]
  have h1 := hy H g
  have h2 := (g.blk hT).1
  simp only [hop, aappend, hu, hi, hs, hx, h1, h2]
  rw [if_pos trivial, if_pos ⟨zeroOkL_ok hzo, by omega, List.all_eq_true.2 hone⟩, if_neg hm, if_pos ⟨trivial, trivial, trivial, by omega, hml, hb⟩]
  simp only [List.drop_zero, Nat.mul_one, AH.kill, g.n_]
  rw [List.take_of_length_le (by omega)]
theorem acells_T {H : AH} {id m c : Nat} {ys : List Value} {b : Blk} (hb : H.m id = some b) (hc : b.cells = ys) (hl : ys.length = m) : acells H (.slice (some ⟨id, 0, some 1⟩) m c) 1 = some (m, ys) := by
  simp only [acells, if_true, hb]
  rw [if_pos (by rw [hc]; omega), List.drop_zero, Nat.mul_one, hc, List.take_of_length_le (by omega)]
/-- A loop that makes memory. -/
theorem KW.lpM {σ : Type} {a : Code} (h : Go1 P k e T n (.loop a) k1 e1 T1 n1 l1 r1) (hlr : l1 = r1) (L : σ → List (Nat × Value)) (SS : σ → Ids) (HH : σ → AH) (TT : σ → List Var) (I : σ → Prop) (μ : σ → Nat) (s : σ) (h0 : I s) (hL : Has e1 (L s)) (hS : SS s = S) (hH : HH s = H0) (hT : TT s = T1)
    (step : ∀ s, I s → ∀ b n, KW P (SS s) (HH s) Q n (TT s) (.code a :: .rnd (fun e H => ∃ s', I s' ∧ μ s' < μ s ∧ Has e (L s') ∧ Good (SS s') (HH s') (TT s') H.n H) :: k1) (kn b (L s))) : KW P S H0 Q n T k e :=
  KW.go h hlr (KW.loop L SS HH TT I μ s h0 hL hS hH hT step)
/-- What a maker returns. -/
theorem KW.retM {fn : Func} {H : AH} {post : Value → AH → Prop} {vs : List Value} {a b : List Nat} (h : Go1 P k e T n (.done .ret) k1 e1 T1 n1 l1 r1) (hlr : l1 = r1) (hr : aresT P e1 T1 fn.results.toList = some (vs, a, b)) (hab : a = b) (hS : ∀ id, id < H.n → S id ∧ H0.m id = H.m id)
    (hp : ∀ H1, Good S H0 T1 n1 H1 → post (aout vs) H1) :
    KW P S H0 (Fin1 P fn (fun v H1 => Ext H H1 ∧ Fin' H1 ∧ post v H1)) n T k e := by
  refine KW.go h hlr (fun H1 g => ?_)
  have hv := aresT_ok (P := P) g _ hr hab
  have hn := g.n_
  have hx : Ext H H1 := by
    refine ⟨?_, fun id hid => by rw [(g.froz id (hS id hid).1).2, (hS id hid).2]⟩
    rcases Nat.eq_zero_or_pos H.n with h | h
    · omega
    · have := (g.froz (H.n - 1) (hS _ (by omega)).1).1
      omega
  simp only [Fin1, hv]
  exact ⟨hx, g.fin, hp H1 g⟩
/-- A call that makes memory and sees the caller's variables. -/
theorem KW.callMV {dr : Bool} {f : Operand} {xs : Array Operand} {ts : Array TypeId} {g : FuncId} {first cap : Array Value} {o : Oper} {post : Nat → Value → AH → Prop} (h : Go1 P k e T n (.op o dr) k1 e1 T1 n1 l1 r1) (hlr : l1 = r1) (ho : o.op = .call { callee := .value f, args := xs, argTypes := ts }) (hd : o.dst = some d1) (hf : ev e1 f = .func (.func g) first cap)
    (hs : ∀ H, Good S H0 T1 n1 H → SpecM P (Low H.n) H g (cargs e1 first cap xs) post)
    (hk : ∀ v H1, n1 ≤ H1.n → (∀ id, S id → H1.m id = H0.m id) → post n1 v H1 → KW P (fun id => S id ∨ New n1 H1.n id) H1 Q H1.n T1 k1 (put1 e1 d1 (untag v))) : KW P S H0 Q n T k e :=
  KW.go h hlr (KEvt.callG (c := ⟨_, _, _, _, _, _⟩) ho hf (fun H gd => hs H gd H gd.fin (fun id hid => ⟨hid, rfl⟩)) (fun v H1 h1 h2 h3 => by rw [hd, put1_eq]; exact hk v H1 h1 h2 h3))
/-- What has been made stands so at the end. -/
theorem Good.sl {α : Type} {d : Kn α} {S S1 : Ids} {H0 H2 : AH} {T : List Var} {n lo : Nat} {v : Value} {xs : List α} (g : Good S H0 T n H2) (h : d.Sl S1 H0 v xs) (hS : ∀ id, S1 id → S id ∧ lo ≤ id) : d.Sl (New lo H2.n) H2 v xs :=
  Kn.Sl.more (fun id hid => ⟨(hS id hid).2, by have := (g.froz id (hS id hid).1).1; have := g.n_; omega⟩) (Kn.Sl.same (fun id hid => (g.froz id (hS id hid).1).2) h)
/-- What is frozen stays so. -/
def St (S : Ids) (H0 : AH) (S' : Ids) (H1 : AH) : Prop := ∀ id, S id → S' id ∧ H1.m id = H0.m id
theorem St.trans {S S1 S2 : Ids} {H0 H1 H2 : AH} (h : St S H0 S1 H1) (k : St S1 H1 S2 H2) : St S H0 S2 H2 := fun id hid => ⟨(k id (h id hid).1).1, ((k id (h id hid).1).2).trans (h id hid).2⟩
theorem Kn.Sl.st {α : Type} {d : Kn α} {S S' : Ids} {H0 H1 : AH} {v : Value} {xs : List α} (h : d.Sl S H0 v xs) (st : St S H0 S' H1) : d.Sl S' H1 v xs := h.on (fun id hid => (st id hid).2) (fun id hid => (st id hid).1)
/-- A call that makes memory. -/
theorem KW.callN {dr : Bool} {f : Operand} {xs : Array Operand} {ts : Array TypeId} {g : FuncId} {first cap : Array Value} {o : Oper} {post : Nat → Value → AH → Prop} (h : Go1 P k e T n (.op o dr) k1 e1 T1 n1 l1 r1) (hlr : l1 = r1) (ho : o.op = .call { callee := .value f, args := xs, argTypes := ts }) (hd : o.dst = some d1) (hf : ev e1 f = .func (.func g) first cap)
    (hs : SpecM P S H0 g (cargs e1 first cap xs) post)
    (hk : ∀ v H1 (S' : Ids), n1 ≤ H1.n → St S H0 S' H1 → (∀ id, New n1 H1.n id → S' id) → post n1 v H1 → KW P S' H1 Q H1.n T1 k1 (put1 e1 d1 (untag v))) : KW P S H0 Q n T k e :=
  KW.callM h hlr ho hd hf hs (fun v H1 h1 h2 h3 => hk v H1 _ h1 (fun id hid => ⟨.inl hid, h2 id hid⟩) (fun id hid => .inr hid) h3)
/-- .. and sees the caller's variables. -/
theorem KW.callNV {dr : Bool} {f : Operand} {xs : Array Operand} {ts : Array TypeId} {g : FuncId} {first cap : Array Value} {o : Oper} {post : Nat → Value → AH → Prop} (h : Go1 P k e T n (.op o dr) k1 e1 T1 n1 l1 r1) (hlr : l1 = r1) (ho : o.op = .call { callee := .value f, args := xs, argTypes := ts }) (hd : o.dst = some d1) (hf : ev e1 f = .func (.func g) first cap)
    (hs : ∀ H, Good S H0 T1 n1 H → SpecM P (Low H.n) H g (cargs e1 first cap xs) post)
    (hk : ∀ v H1 (S' : Ids), n1 ≤ H1.n → St S H0 S' H1 → (∀ id, New n1 H1.n id → S' id) → post n1 v H1 → KW P S' H1 Q H1.n T1 k1 (put1 e1 d1 (untag v))) : KW P S H0 Q n T k e :=
  KW.callMV h hlr ho hd hf hs (fun v H1 h1 h2 h3 => hk v H1 _ h1 (fun id hid => ⟨.inl hid, h2 id hid⟩) (fun id hid => .inr hid) h3)
/-- What is frozen stands so in every good memory, for a callee. -/
theorem Good.st {S : Ids} {H0 H : AH} {T : List Var} {n : Nat} (g : Good S H0 T n H) : St S H0 (Low H.n) H := fun id hid => ⟨by have := (g.froz id hid).1; have := g.n_; show id < H.n; omega, (g.froz id hid).2⟩
/-- Whole numbers in a row. -/
theorem int_at {ik : IntKind} {xs : List Int} {S : Ids} {H : AH} {i : Nat} {x : Int} (h : xs[i]? = some x) : (Kn.int ik).R S H x (((xs.map (Value.int ik)).drop (0 + i * 1)).take 1) := by
  obtain ⟨hi, rfl⟩ := List.getElem?_eq_some_iff.1 h
  show _ = _
  rw [List.take_one, Nat.zero_add, Nat.mul_one, List.head?_drop]
  simp [hi]
theorem int_sl {ik : IntKind} {xs : List Int} {S : Ids} {H : AH} {id c : Nat} {b : Blk} (hS : S id) (hb : H.m id = some b) (hc : b.cells = xs.map (Value.int ik)) (hl : xs.length ≤ c) : (Kn.int ik).Sl S H (.slice (some ⟨id, 0, some 1⟩) xs.length c) xs :=
  .inr ⟨id, 0, c, b, rfl, hl, hS, hb, by rw [hc]; simp [Kn.int], fun i x hx => by rw [hc]; exact int_at hx⟩
end
end Go.Proofs.Ytaepgfafbnjccaa.Am
