/- What stands in memory goes over by itself: an instance says that what stands in one memory stands in a later one; rules that give such instances. For every program. No condition beyond each theorem's own. -/
import Derived.Test.YtaepgfafbnjccaaAm27
import Derived.Test.YtaepgfafbnjccaaAm24
set_option linter.unusedSimpArgs false
set_option linter.unusedVariables false
namespace Go.Proofs.Ytaepgfafbnjccaa.Am
open Go Go.RowKit
/-- A step: what stands in (S, H) stands in (S', H'). -/
class Stp (S : outParam Ids) (H : outParam AH) (S' : Ids) (H' : AH) : Prop where
  st : St S H S' H'
class On (S : Ids) (H : AH) (S' : Ids) (H' : AH) : Prop where
  st : St S H S' H'
instance On.refl (S : Ids) (H : AH) : On S H S H := ⟨fun id hid => ⟨hid, rfl⟩⟩
instance On.step {S S1 S2 : Ids} {H H1 H2 : AH} [t : Stp S1 H1 S2 H2] [o : On S H S1 H1] : On S H S2 H2 := ⟨o.st.trans t.st⟩
section
variable {α : Type} {d : Kn α} {X S S' : Ids} {H H' : AH} {s : Value} {xs : List α} {x : α} {cs : List Value}
theorem Kn.Sl.up [o : On S H S' H'] (h : d.Sl S H s xs) : d.Sl S' H' s xs := h.st o.st
theorem Kn.Ml.up [o : On S H S' H'] (h : d.Ml S H s xs) : d.Ml S' H' s xs := Kn.Ml.st h o.st
theorem Kn.Ml.ups [o : On S H S' H'] (h : d.Ml S H s xs) : d.Sl S' H' s xs := (Kn.Ml.st h o.st).sl
/-- .. of a list of owned rows. -/
theorem Kn.Ml.upS [o : On S H S' H'] {xs : List (List α)} (h : d.ml.Ml S H s xs) : d.sl.Sl S' H' s xs := (Kn.Ml.st h o.st).to (KLe.row (KLe.refl d))
theorem On.R [o : On S H S' H'] (h : d.R S H x cs) : d.R S' H' x cs := d.more (fun id hid => (o.st id hid).1) (d.same (fun id hid => (o.st id hid).2) h)
theorem On.blk [o : On S H S' H'] {id : Nat} {b : Blk} (hS : S id) (hm : H.m id = some b) : S' id ∧ H'.m id = some b := ⟨(o.st id hS).1, ((o.st id hS).2).trans hm⟩
/-- What stands behind all, seen from a later end. -/
theorem Good.out {S0 : Ids} {H0 H2 : AH} {T : List Var} {n lo : Nat} (g : Good S0 H0 T n H2) [o : On X H S0 H0] (hX : ∀ id, X id → lo ≤ id) : On X H (New lo H2.n) H2 :=
  ⟨fun id hid => by
    obtain ⟨h1, h2⟩ := o.st id hid
    obtain ⟨h3, h4⟩ := g.froz id h1
    have := g.n_
    exact ⟨⟨hX id hid, by omega⟩, h4.trans h2⟩⟩
theorem Good.stp {S0 : Ids} {H0 H2 : AH} {T : List Var} {n : Nat} (g : Good S0 H0 T n H2) : Stp S0 H0 (Low H2.n) H2 := ⟨g.st⟩
/-- A variable, for a callee and what it calls. -/
theorem Good.var {S0 : Ids} {H0 H1 : AH} {T : List Var} {n j id : Nat} {b : Blk} (g : Good S0 H0 T n H1) (hj : T[j]? = some (id, b)) [o : On (Low H1.n) H1 S' H'] : S' id ∧ H'.m id = some b := by
  obtain ⟨h1, h2⟩ := g.blk hj
  obtain ⟨h3, h4⟩ := o.st id h2
  exact ⟨h3, h4.trans h1⟩
theorem Good.nle {S0 : Ids} {H0 H1 H2 : AH} {T : List Var} {n : Nat} [o : On (Low H1.n) H1 S0 H0] (g : Good S0 H0 T n H2) : H1.n ≤ n := by
  rcases Nat.eq_zero_or_pos H1.n with h | h
  · omega
  · have := (g.froz (H1.n - 1) (o.st _ (by show _ < _; omega)).1).1; omega
end
section
variable {P : Program} {S : Ids} {H0 : AH} {Q : PostC} {k k1 k2 : List It} {e e1 e2 : Env} {T T1 T2 : List Var} {n n1 n2 : Nat} {l1 r1 l2 r2 : List Nat} {d1 d2 : Tmp}
theorem Spec.of1 {f : FuncId} {fn : Func} {c : Code} {args : List Value} {post : Value → Prop} (hf : P.funcs[f]? = some fn) (hb : fn.body = some c) (hok : fnOk fn = true) (hs : Nat.ble args.length fn.ntmps = true)
    (h : ∀ H, Stp S H0 (Low H.n) H → KW P (Low H.n) H (Fin1 P fn (fun v H1 => Ext H H1 ∧ Fin' H1 ∧ post v)) H.n [] [.code c] (fun t => args.getD t undef)) : Spec P S H0 f args post :=
  Spec.of hf hb hok hs (fun H _ hfz => h H ⟨fun id hid => hfz id hid⟩)
theorem SpecM.of1 {f : FuncId} {fn : Func} {c : Code} {args : List Value} {post : Nat → Value → AH → Prop} (hf : P.funcs[f]? = some fn) (hb : fn.body = some c) (hok : fnOk fn = true) (hs : Nat.ble args.length fn.ntmps = true)
    (h : ∀ H, Stp S H0 (Low H.n) H → KW P (Low H.n) H (Fin1 P fn (fun v H1 => Ext H H1 ∧ Fin' H1 ∧ post H.n v H1)) H.n [] [.code c] (fun t => args.getD t undef)) : SpecM P S H0 f args post :=
  SpecM.of hf hb hok hs (fun H _ hfz => h H ⟨fun id hid => hfz id hid⟩)
/-- A call that makes memory. -/
theorem KW.callN1 {dr : Bool} {f : Operand} {xs : Array Operand} {ts : Array TypeId} {g : FuncId} {first cap : Array Value} {o : Oper} {post : Nat → Value → AH → Prop} (h : Go1 P k e T n (.op o dr) k1 e1 T1 n1 l1 r1) (hlr : l1 = r1) (ho : o.op = .call { callee := .value f, args := xs, argTypes := ts }) (hd : o.dst = some d1) (hf : ev e1 f = .func (.func g) first cap)
    (hs : SpecM P S H0 g (cargs e1 first cap xs) post)
    (hk : ∀ v H1 (S' : Ids), n1 ≤ H1.n → Stp S H0 S' H1 → On (New n1 H1.n) H1 S' H1 → post n1 v H1 → KW P S' H1 Q H1.n T1 k1 (put1 e1 d1 (untag v))) : KW P S H0 Q n T k e :=
  KW.callN h hlr ho hd hf hs (fun v H1 S' h1 h2 h3 h4 => hk v H1 S' h1 ⟨h2⟩ ⟨fun id hid => ⟨h3 id hid, rfl⟩⟩ h4)
/-- .. and sees the caller's variables. -/
theorem KW.callNV1 {dr : Bool} {f : Operand} {xs : Array Operand} {ts : Array TypeId} {g : FuncId} {first cap : Array Value} {o : Oper} {post : Nat → Value → AH → Prop} (h : Go1 P k e T n (.op o dr) k1 e1 T1 n1 l1 r1) (hlr : l1 = r1) (ho : o.op = .call { callee := .value f, args := xs, argTypes := ts }) (hd : o.dst = some d1) (hf : ev e1 f = .func (.func g) first cap)
    (hs : ∀ H, Good S H0 T1 n1 H → Stp S H0 (Low H.n) H → SpecM P (Low H.n) H g (cargs e1 first cap xs) post)
    (hk : ∀ v H1 (S' : Ids), n1 ≤ H1.n → Stp S H0 S' H1 → On (New n1 H1.n) H1 S' H1 → post n1 v H1 → KW P S' H1 Q H1.n T1 k1 (put1 e1 d1 (untag v))) : KW P S H0 Q n T k e :=
  KW.callNV h hlr ho hd hf (fun H g => hs H g g.stp) (fun v H1 S' h1 h2 h3 h4 => hk v H1 S' h1 ⟨h2⟩ ⟨fun id hid => ⟨h3 id hid, rfl⟩⟩ h4)
/-- A call that sees the caller's variables, and whose value is known. -/
theorem KW.callV1 {dr : Bool} {f : Operand} {xs : Array Operand} {ts : Array TypeId} {g : FuncId} {first cap : Array Value} {o : Oper} {v : Value} (h : Go1 P k e T n (.op o dr) k1 e1 T1 n1 l1 r1) (hlr : l1 = r1) (ho : o.op = .call { callee := .value f, args := xs, argTypes := ts }) (hd : o.dst = some d1) (hf : ev e1 f = .func (.func g) first cap)
    (hs : ∀ H, Good S H0 T1 n1 H → Stp S H0 (Low H.n) H → Spec P (Low H.n) H g (cargs e1 first cap xs) (fun u => u = v))
    (hk : ∀ n', n1 ≤ n' → KW P S H0 Q n' T1 k1 (put1 e1 d1 (untag v))) : KW P S H0 Q n T k e :=
  KW.callV h hlr ho hd hf (fun H g => hs H g g.stp) hk
theorem KW.callVp1 {dr : Bool} {f : Operand} {xs : Array Operand} {ts : Array TypeId} {g : FuncId} {first cap : Array Value} {o : Oper} {post : Value → Prop} (h : Go1 P k e T n (.op o dr) k1 e1 T1 n1 l1 r1) (hlr : l1 = r1) (ho : o.op = .call { callee := .value f, args := xs, argTypes := ts }) (hd : o.dst = some d1) (hf : ev e1 f = .func (.func g) first cap)
    (hs : ∀ H, Good S H0 T1 n1 H → Stp S H0 (Low H.n) H → Spec P (Low H.n) H g (cargs e1 first cap xs) post)
    (hk : ∀ v n', n1 ≤ n' → post v → KW P S H0 Q n' T1 k1 (put1 e1 d1 (untag v))) : KW P S H0 Q n T k e :=
  KW.callVp h hlr ho hd hf (fun H g => hs H g g.stp) hk
/-- What a maker returns. -/
theorem KW.retM1 {fn : Func} {H : AH} {post : Value → AH → Prop} {vs : List Value} {a b : List Nat} [o : On (Low H.n) H S H0] (h : Go1 P k e T n (.done .ret) k1 e1 T1 n1 l1 r1) (hlr : l1 = r1) (hr : aresT P e1 T1 fn.results.toList = some (vs, a, b)) (hab : a = b)
    (hp : ∀ H1, Good S H0 T1 n1 H1 → post (aout vs) H1) :
    KW P S H0 (Fin1 P fn (fun v H1 => Ext H H1 ∧ Fin' H1 ∧ post v H1)) n T k e :=
  KW.retM h hlr hr hab (fun id hid => o.st id hid) hp
theorem KW.endM1 {fn : Func} {H : AH} {post : Value → AH → Prop} {vs : List Value} {a b : List Nat} [o : On (Low H.n) H S H0] (h : Go1 P k e T n (.done .normal) k1 e1 T1 n1 l1 r1) (hlr : l1 = r1) (hr : aresT P e1 T1 fn.results.toList = some (vs, a, b)) (hab : a = b)
    (hp : ∀ H1, Good S H0 T1 n1 H1 → post (aout vs) H1) :
    KW P S H0 (Fin1 P fn (fun v H1 => Ext H H1 ∧ Fin' H1 ∧ post v H1)) n T k e := by
  refine KW.go h hlr (fun H1 g => ?_)
  have hv := aresT_ok (P := P) g _ hr hab
  have hx : Ext H H1 := ⟨by have := g.nle (H1 := H); have := g.n_; omega, fun id hid => by rw [(g.froz id (o.st id hid).1).2, (o.st id hid).2]⟩
  simp only [Fin1, hv]
  exact ⟨hx, g.fin, hp H1 g⟩
/-- Variables of which nothing more is said. -/
theorem KW.take (m : Nat) (h : KW P S H0 Q n (T.take m) k e) : KW P S H0 Q n T k e := fun H g => h H (g.take m)
/-- One element more, to a slice that one has made: a literal of one element, then append. -/
theorem KW.app1 (j m0 : Nat) {o o' : Oper} {dr dr' : Bool} {t el t' : TypeId} {m : Nat} {parts : Array (Nat × Operand)} {inf : TypeInfo} {z : Value} {x y : Operand} {len c id : Nat} {xs : List Value} {v : Value} (h : Go1 P k e T n (.op o dr) k1 e1 T1 n1 l1 r1) (hlr : l1 = r1) (ho : o.op = .buildSlice t m parts) (hd : o.dst = some d1)
    (hu : P.underlying t = some (.slice el)) (hi : P.info? el = some inf) (hs : inf.size = 1) (hz : inf.zero = some z) (hz1 : z.cells = #[z]) (hzo : zeroOkL P el = true) (hp : (parts.toList.map fun p => (p.1, ev e1 p.2)) = [(0, v)]) (hm : m = 1) (hv : v.cells = #[v]) (ho1 : v.oneCell' = true)
    (h' : Go1 P k1 (put1 e1 d1 (.slice (some ⟨n1, 0, some 1⟩) 1 1)) (T1 ++ [(n1, ⟨el, true, [v]⟩)]) (n1 + 1) (.op o' dr') k2 e2 T2 n2 l2 r2) (hlr' : l2 = r2) (ho' : o'.op = .call { callee := .builtin .append, args := #[x, y], argTypes := #[t', t'] }) (hd' : o'.dst = some d2) (hx' : ev e2 x = .slice (some ⟨id, 0, some 1⟩) len c) (hT : T2[j]? = some (id, ⟨el, true, xs⟩))
    (hu' : P.underlying t' = some (.slice el)) (hy' : ev e2 y = .slice (some ⟨n1, 0, some 1⟩) 1 1) (hT2 : T2[m0]? = some (n1, ⟨el, true, [v]⟩)) (hlen : xs.length = len) (hb : (len + 1) * inf.bytes ≤ 140737488355328) (hml : len + 1 ≤ 9223372036854775807)
    (hk : KW P S H0 Q (n2 + 1) ((T2.set j (n2, ⟨el, true, xs ++ [v]⟩)).take m0) k2 (put1 e2 d2 (.slice (some ⟨n2, 0, some 1⟩) (len + 1) (len + 1)))) : KW P S H0 Q n T k e :=
  KW.lit h hlr ho hd hu hi hs hz hz1 hzo [v] (by rw [hp]; rfl) hm (fun u hu => by rw [List.mem_singleton.1 hu]; exact hv) rfl
    (KW.appT (ys := [v]) (m := 1) j h' hlr' ho' hd' hx' hT hu' hi hs hzo (fun H g => by rw [hy']; exact acells_T (g.blk hT2).1 rfl rfl) hlen (fun u hu => by rw [List.mem_singleton.1 hu]; exact ho1) (by decide) hb hml (KW.take m0 hk))
/-- The first element. -/
theorem KW.app0 (m0 : Nat) {o o' : Oper} {dr dr' : Bool} {t el t' : TypeId} {m : Nat} {parts : Array (Nat × Operand)} {inf : TypeInfo} {z : Value} {x y : Operand} {v : Value} (h : Go1 P k e T n (.op o dr) k1 e1 T1 n1 l1 r1) (hlr : l1 = r1) (ho : o.op = .buildSlice t m parts) (hd : o.dst = some d1)
    (hu : P.underlying t = some (.slice el)) (hi : P.info? el = some inf) (hs : inf.size = 1) (hz : inf.zero = some z) (hz1 : z.cells = #[z]) (hzo : zeroOkL P el = true) (hp : (parts.toList.map fun p => (p.1, ev e1 p.2)) = [(0, v)]) (hm : m = 1) (hv : v.cells = #[v]) (ho1 : v.oneCell' = true)
    (h' : Go1 P k1 (put1 e1 d1 (.slice (some ⟨n1, 0, some 1⟩) 1 1)) (T1 ++ [(n1, ⟨el, true, [v]⟩)]) (n1 + 1) (.op o' dr') k2 e2 T2 n2 l2 r2) (hlr' : l2 = r2) (ho' : o'.op = .call { callee := .builtin .append, args := #[x, y], argTypes := #[t', t'] }) (hd' : o'.dst = some d2) (hx' : ev e2 x = .slice none 0 0)
    (hu' : P.underlying t' = some (.slice el)) (hy' : ev e2 y = .slice (some ⟨n1, 0, some 1⟩) 1 1) (hT2 : T2[m0]? = some (n1, ⟨el, true, [v]⟩)) (hb : inf.bytes ≤ 140737488355328)
    (hk : KW P S H0 Q (n2 + 1) (T2.take m0 ++ [(n2, ⟨el, true, [v]⟩)]) k2 (put1 e2 d2 (.slice (some ⟨n2, 0, some 1⟩) 1 1))) : KW P S H0 Q n T k e :=
  KW.lit h hlr ho hd hu hi hs hz hz1 hzo [v] (by rw [hp]; rfl) hm (fun u hu => by rw [List.mem_singleton.1 hu]; exact hv) rfl
    (KW.appN (ys := [v]) (m := 1) h' hlr' ho' hd' hx' hu' hi hs hzo (fun H g => by rw [hy']; exact acells_T (g.blk hT2).1 rfl rfl) (fun u hu => by rw [List.mem_singleton.1 hu]; exact ho1) (by decide) (by omega) (by decide) (fun H g => hk H
      ⟨g.n_, g.fin, g.froz, fun i w hi => by
        rw [List.getElem?_append] at hi
        split at hi
        · rename_i hlt
          rw [List.getElem?_take] at hi
          split at hi
          · exact g.vars i w (by rw [List.getElem?_append_left (List.getElem?_eq_some_iff.1 hi).1]; exact hi)
          · cases hi
        · rename_i hge
          obtain ⟨h1, h2⟩ := List.getElem?_eq_some_iff.1 hi
          simp at h1 h2
          subst h2
          exact g.vars T2.length _ (by simp),
      fun i i' u w hi hi' he => by
        have hm0 := (List.getElem?_eq_some_iff.1 hT2).1
        have get : ∀ {i : Nat} {u : Var}, (T2.take m0 ++ [(n2, ⟨el, true, [v]⟩)])[i]? = some u → (i = m0 ∧ u = (n2, ⟨el, true, [v]⟩)) ∨ (i < m0 ∧ (T2 ++ [(n2, (⟨el, true, [v]⟩ : Blk))])[i]? = some u) := fun {i u} hi => by
          have hl : (T2.take m0).length = m0 := by rw [List.length_take]; omega
          rw [List.getElem?_append] at hi
          split at hi
          · rename_i hlt
            rw [List.getElem?_take] at hi
            split at hi
            · exact .inr ⟨by omega, by rw [List.getElem?_append_left (by omega)]; exact hi⟩
            · cases hi
          · obtain ⟨h1, h2⟩ := List.getElem?_eq_some_iff.1 hi
            simp at h1 h2
            exact .inl ⟨by omega, h2.symm⟩
        have lst : (T2 ++ [(n2, (⟨el, true, [v]⟩ : Blk))])[T2.length]? = some (n2, ⟨el, true, [v]⟩) := by simp
        rcases get hi with ⟨e1, rfl⟩ | ⟨e1, k1⟩ <;> rcases get hi' with ⟨e2, rfl⟩ | ⟨e2, k2⟩
        · omega
        · have := g.dist _ _ _ _ lst k2 he; omega
        · have := g.dist _ _ _ _ k1 lst he; omega
        · exact g.dist _ _ _ _ k1 k2 he⟩))
end
/-- A whole number, wrapped to no effect. -/
theorem vI {x y : Int} (h : x = y) (h1 : -9223372036854775808 ≤ y) (h2 : y ≤ 9223372036854775807) : Value.int .i64 (IntKind.i64.wrap x) = .int .i64 y := by rw [h, wr h1 h2]
theorem vU {x y : Int} (h : x = y) (h1 : 0 ≤ y) (h2 : y < 18446744073709551616) : Value.int .u64 (IntKind.u64.wrap x) = .int .u64 y := by rw [h, wru h1 h2]
end Go.Proofs.Ytaepgfafbnjccaa.Am
