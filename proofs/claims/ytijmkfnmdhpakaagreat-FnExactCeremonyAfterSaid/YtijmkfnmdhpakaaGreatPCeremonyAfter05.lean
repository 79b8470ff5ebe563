/- Contracts and laws on abstract memory, merged. Each holds under its own conditions. -/
import Derived.Test.YtijmkfnmdhpakaaGreatPCeremonyAfter04
/- Contracts: the ceremony behind its deeds, both sides. Each holds under its own conditions. -/
set_option linter.unusedVariables false
set_option linter.unusedSimpArgs false
set_option maxRecDepth 20000
namespace Go.Proofs.YtijmkfnmdhpakaaGreat.Am
open Go Go.RowKit Go.Proofs
/-- How many deeds are done. -/
def doneC : List Int → Nat
  | [] => 0
  | k :: ks => (if k = 0 then 1 else 0) + doneC ks
theorem doneC_snoc (k : Int) : ∀ l : List Int, doneC (l ++ [k]) = doneC l + (if k = 0 then 1 else 0)
  | [] => by simp [doneC]
  | a :: l => by simp only [List.cons_append, doneC, doneC_snoc k l]; omega
theorem doneC_le : ∀ l : List Int, doneC l ≤ l.length
  | [] => Nat.le_refl _
  | a :: l => by simp only [doneC, List.length_cons]; have := doneC_le l; split <;> omega
theorem T1c {i : Nat} {ty : TypeId} {cs cs' : List Value} (h : cs = cs') : ([(i, ⟨ty, true, cs⟩)] : List Var) = [(i, ⟨ty, true, cs'⟩)] := by rw [h]
section
variable {S : Ids} {H0 : AH} {D : Ids} {x : T_Deal} {ds : List T_Deed} {dcs : List Value}
theorem implAfter {a c} (hd : DealOk x) (hdp : ∀ d ∈ ds, DeedP d) (h400 : ds.length ≤ 400) (hB : B_Deal x) (hD : K_Deal.R S H0 x dcs) (hs : K_Deed.Sl S H0 (.slice a ds.length c) ds) :
    SpecM Tryz.prog S H0 42 [.agg dcs.toArray, .slice a ds.length c] (fun n v H1 => ∃ (d : HD) (X : Ids), v = .tuple #[.pointer (some ⟨d.hid, 0, none⟩), .int .i64 (doneC (codes x (cer0 x.1.1.toNat) ds) : Nat)] ∧ Hl HTI [] dcs (New n H1.n) H1 X d (play x (cer0 x.1.1.toNat) ds)) := by
  obtain ⟨d1, d2, d3, d4, d5, d6, d7, d8, rfl⟩ := form_Deal hD
  refine SpecM.of1 Tryz.func42 rfl (by kernel_rfl) rfl (fun H _ => ?_)
  have hD0 : K_Deal.R (Low H.n) H x _ := On.R hD
  have hs0 := hs.up (S' := Low H.n) (H' := H)
  refine KW.callN1 rfl rfl rfl rfl rfl (newHall hd hD0) (fun v H1 S1 m1 _ _ hv => ?_)
  obtain ⟨d, sp, rfl, hh⟩ := hv
  have st1 := (inferInstance : On (Low H.n) H S1 H1).st
  have hh1 := hh.on (S' := S1) (A' := H1)
  obtain ⟨hid, ehid⟩ : ∃ hid, d.hid = hid := ⟨_, rfl⟩
  rw [ehid]
  have R0 : RunJ HTI [] _ x ds H hid ⟨0, S1, H1, fun _ => False, d, cer0 x.1.1.toNat, 0, []⟩ := ⟨hh1, ehid, CerOk.start hd, st1, fun id p => by have := (hh.w id p).1; omega, fun id p => p.elim, Nat.zero_le _, rfl, rfl, rfl⟩
  refine KW.lpM rfl rfl (fun s : RT => [(6, .pointer (some ⟨hid, 0, none⟩)), (7, .int .i64 (doneC s.cs : Nat)), (12, .slice a ds.length c), (13, .int .i64 ds.length), (14, .int .i64 s.i)]) (fun s => s.S) (fun s => s.A) (fun s => [(H.n, ⟨40, true, [.int .i64 x.1.1, .slice d1 x.1.2.1.length d2, .int .i64 x.1.2.2.1, .int .i64 x.1.2.2.2.1, .slice d3 x.1.2.2.2.2.length d4, .int .i64 x.2.1, .slice d5 x.2.2.1.length d6, .slice d7 x.2.2.2.length d8]⟩)]) (fun s => RunJ HTI [] [.int .i64 x.1.1, .slice d1 x.1.2.1.length d2, .int .i64 x.1.2.2.1, .int .i64 x.1.2.2.2.1, .slice d3 x.1.2.2.2.2.length d4, .int .i64 x.2.1, .slice d5 x.2.2.1.length d6, .slice d7 x.2.2.2.length d8] x ds H hid s) (fun s => ds.length - s.i) (⟨0, S1, H1, fun _ => False, d, cer0 x.1.1.toNat, 0, []⟩) (R0) ⟨rfl, rfl, rfl, rfl, rfl, trivial⟩ rfl rfl (rfl) (fun s hi bE n => ?_)
  have R := hi
  obtain ⟨i, S2, H2, X2, e2, c2, o2, cs2⟩ := s
  have old : St (Low H.n) H S2 H2 := R.old
  have ehd : e2.hid = hid := R.hd
  have el : cs2.length = i := R.cl
  have hdl := doneC_le cs2
  have hile : i ≤ ds.length := R.le
  refine KW.cnd rfl rfl (fun k2 => ?_) (fun k2 => ?_)
  · have k2 : (i : Int) < (ds.length : Int) := k2
    have hs2 : K_Deed.Sl S2 H2 (.slice a ds.length c) ds := sl_mk hs0 (fun id p => old id p)
    refine KW.getS (td := .struct #[]) hs2 rfl rfl rfl rfl rfl rfl rfl rfl rfl rfl rfl rfl rfl rfl rfl rfl rfl (by omega) (k2) (fun y cy hy hsy => ?_)
    have hy : ds[i]? = some y := hy
    obtain rfl := form_Deed hsy
    have hmem := List.mem_of_getElem? hy
    have hD2 : K_Deal.R (Low H.n) H2 x _ := K_Deal.same (fun id p => (old id p).2) hD0
    refine KW.cnt (fun n2 hn2 => ?_)
    refine KW.fact (p := H.n < n2) (fun H1 g => (g.vars 0 _ rfl).2.1) (fun hlt => ?_)
    have hdo := implDo (hdp y hmem) hd hB R.ok R.hl hD2 (fun id p => ⟨(old id p).1, fun w => by have := R.new id w; have : id < H.n := p; omega⟩)
    simp only [ehd] at hdo
    refine KW.callW R.hl.w rfl rfl rfl rfl rfl hdo (fun v H5 S5 m5 t5 w5 hv => ?_)
    obtain ⟨rfl, hp⟩ := hv
    obtain ⟨X3, e3, R3⟩ := R.next hd (hdp y hmem) hy t5 w5 (by omega) hp 0
    have hsn := doneC_snoc (doIt x c2 y).2 cs2
    refine KW.cnd rfl rfl (fun k3 => ?ga) (fun k3 => ?gb)
    case ga =>
      have k3 : (doIt x c2 y).2 = 0 := k3
      rw [if_pos k3] at hsn
      have ew : IntKind.i64.wrap ((doneC cs2 : Nat) + 1) = ((doneC (cs2 ++ [(doIt x c2 y).2]) : Nat) : Int) := by rw [hsn, wr (by omega) (by omega)]; omega
      refine KW.nxt rfl rfl (fun H' g => ⟨⟨i + 1, S5, H5, X3, e3, (doIt x c2 y).1, 0, cs2 ++ [(doIt x c2 y).2]⟩, R3, by first | omega | (simp only; omega), ⟨rfl, congrArg (Value.int .i64) ew, rfl, rfl, congrArg (Value.int .i64) (inc64 (by omega)), trivial⟩, g.take 1⟩)
    case gb =>
      have k3 : ¬ (doIt x c2 y).2 = 0 := k3
      rw [if_neg k3] at hsn
      have ew : ((doneC cs2 : Nat) : Int) = ((doneC (cs2 ++ [(doIt x c2 y).2]) : Nat) : Int) := by rw [hsn]; rfl
      refine KW.nxt rfl rfl (fun H' g => ⟨⟨i + 1, S5, H5, X3, e3, (doIt x c2 y).1, 0, cs2 ++ [(doIt x c2 y).2]⟩, R3, by first | omega | (simp only; omega), ⟨rfl, congrArg (Value.int .i64) ew, rfl, rfl, congrArg (Value.int .i64) (inc64 (by omega)), trivial⟩, g.take 1⟩)
  · have k2 : ¬ (i : Int) < (ds.length : Int) := k2
    have he : i = ds.length := by omega
    refine KW.retM rfl rfl rfl rfl (fun id hid => old id hid) (fun H1 g => ?_)
    obtain ⟨q1, q2⟩ := R.done he g
    have q2 : cs2 = codes x (cer0 x.1.1.toNat) ds := q2
    refine ⟨e2, X2, ?_, q1⟩
    rw [← q2, ehd]
    rfl
theorem l08PlayH {a c} {did : Nat} (hd : DealOk x) (hdp : ∀ d ∈ ds, DeedP d) (h400 : ds.length ≤ 400) (hB : B_Deal x) (hD : K_Deal.R S H0 x dcs) (hDv : Has3 S H0 did 0 dcs) (hs : K_Deed.Sl S H0 (.slice a ds.length c) ds) :
    SpecM Tryz.prog S H0 35 [.pointer (some ⟨did, 0, none⟩), .slice a ds.length c] (fun n v H1 => ∃ (d : HD) (X : Ids) (o : Nat), v = .tuple #[.pointer (some ⟨d.hid, 0, none⟩), .slice (some ⟨o, 0, some 1⟩) (codes x (cer0 x.1.1.toNat) ds).length (codes x (cer0 x.1.1.toNat) ds).length] ∧ KI.Ml (New n H1.n) H1 (.slice (some ⟨o, 0, some 1⟩) (codes x (cer0 x.1.1.toNat) ds).length (codes x (cer0 x.1.1.toNat) ds).length) (codes x (cer0 x.1.1.toNat) ds) ∧ Hl HTS [.pointer (some ⟨did, 0, none⟩)] [] (New n H1.n) H1 X d (play x (cer0 x.1.1.toNat) ds)) := by
  refine SpecM.of1 Tryz.func35 rfl (by kernel_rfl) rfl (fun H _ => ?_)
  have hD0 : K_Deal.R (Low H.n) H x dcs := On.R hD
  have hDv0 := hDv.up (S' := Low H.n) (H' := H)
  have hs0 := hs.up (S' := Low H.n) (H' := H)
  refine KW.callN1 rfl rfl rfl rfl rfl (l08Begin hd hD0 hDv0) (fun v H1 S1 m1 _ _ hv => ?_)
  obtain ⟨d, sp, rfl, hh⟩ := hv
  have st1 := (inferInstance : On (Low H.n) H S1 H1).st
  have hh1 := hh.on (S' := S1) (A' := H1)
  obtain ⟨hid, ehid⟩ : ∃ hid, d.hid = hid := ⟨_, rfl⟩
  rw [ehid]
  refine KW.lit rfl rfl rfl rfl rfl rfl rfl rfl rfl rfl [] rfl rfl (fun v hv => by simp at hv) rfl ?_
  have R0 : RunJ HTS [.pointer (some ⟨did, 0, none⟩)] [] x ds H hid ⟨0, S1, H1, fun _ => False, d, cer0 x.1.1.toNat, H1.n, []⟩ := ⟨hh1, ehid, CerOk.start hd, st1, fun id p => (hh.w id p).1, fun id p => p.elim, Nat.zero_le _, rfl, rfl, rfl⟩
  refine KW.lpM rfl rfl (fun s : RT => [(0, .pointer (some ⟨did, 0, none⟩)), (1, .slice a ds.length c), (6, .pointer (some ⟨hid, 0, none⟩)), (7, .slice (some ⟨s.o, 0, some 1⟩) s.i s.i), (8, .int .i64 s.i)]) (fun s => s.S) (fun s => s.A) (fun s => [(s.o, ⟨2, true, s.cs.map (Value.int .i64)⟩)]) (fun s => RunJ HTS [.pointer (some ⟨did, 0, none⟩)] [] x ds H hid s) (fun s => ds.length - s.i) (⟨0, S1, H1, fun _ => False, d, cer0 x.1.1.toNat, H1.n, []⟩) (R0) ⟨rfl, rfl, rfl, rfl, rfl, trivial⟩ rfl rfl (rfl) (fun s hi bE n => ?_)
  have R := hi
  obtain ⟨i, S2, H2, X2, e2, c2, o2, cs2⟩ := s
  have old : St (Low H.n) H S2 H2 := R.old
  have ehd : e2.hid = hid := R.hd
  have el : cs2.length = i := R.cl
  have hile : i ≤ ds.length := R.le
  refine KW.cnd rfl rfl (fun k2 => ?_) (fun k2 => ?_)
  · have k2 : (i : Int) < (ds.length : Int) := k2
    have hs2 : K_Deed.Sl S2 H2 (.slice a ds.length c) ds := sl_mk hs0 (fun id p => old id p)
    refine KW.getS (td := .struct #[]) hs2 rfl rfl rfl rfl rfl rfl rfl rfl rfl rfl rfl rfl rfl rfl rfl rfl rfl (by omega) (k2) (fun y cy hy hsy => ?_)
    have hy : ds[i]? = some y := hy
    obtain rfl := form_Deed hsy
    have hmem := List.mem_of_getElem? hy
    have hD2 : K_Deal.R (Low H.n) H2 x _ := K_Deal.same (fun id p => (old id p).2) hD0
    have hDv2 : Has3 (Low H.n) H2 did 0 dcs := by
      obtain ⟨q0, b, q1, q2⟩ := hDv0
      exact ⟨q0, b, ((old did q0).2).trans q1, q2⟩
    refine KW.cnt (fun n2 hn2 => ?_)
    have hlo : ∀ {H1 : AH} {b : Blk}, Good S2 H2 [(o2, b)] n2 H1 → H.n ≤ n2 := fun {H1 b} g => by
      rcases Nat.eq_zero_or_pos H.n with h0 | h0
      · omega
      · have := (g.froz (H.n - 1) (old (H.n - 1) (show H.n - 1 < H.n by omega)).1).1
        have := g.n_
        omega
    refine KW.fact (p := H.n ≤ n2) (fun H1 g => hlo g) (fun hlt => ?_)
    have hdo := specDo (hdp y hmem) hd hB R.ok R.hl hD2 hDv2 (fun id p => ⟨(old id p).1, fun w => by have := R.new id w; have : id < H.n := p; omega⟩)
    simp only [ehd] at hdo
    refine KW.callW R.hl.w rfl rfl rfl rfl rfl hdo (fun v H5 S5 m5 t5 w5 hv => ?_)
    obtain ⟨rfl, hp⟩ := hv
    obtain ⟨X3, e3, R3⟩ := R.next hd (hdp y hmem) hy t5 w5 (by omega) hp (H5.n + 1)
    refine KW.lit rfl rfl rfl rfl rfl rfl rfl rfl rfl rfl [.int .i64 (doIt x c2 y).2] rfl rfl (fun v hv => by simp at hv; subst hv; rfl) rfl ?_
    refine KW.appTS (m := 1) (ys := [.int .i64 (doIt x c2 y).2]) 0 rfl rfl rfl rfl rfl rfl rfl rfl (by decide) rfl (fun H1 g => acells_seg (g.blk (j := 1) rfl).1 (by show 0 + 1 * 1 ≤ 1; decide)) (by show 0 + i * 1 ≤ (cs2.map (Value.int .i64)).length; rw [List.length_map]; omega) rfl (by decide) (by show (i + 1) * 8 ≤ _; omega) (by omega) ?_
    have e3c : ((cs2.map (Value.int .i64)).drop 0).take (i * 1) ++ [.int .i64 (doIt x c2 y).2] = (cs2 ++ [(doIt x c2 y).2]).map (Value.int .i64) := by rw [drop0_take (by rw [List.length_map]; omega)]; simp
    refine KW.nxt rfl rfl (fun H' g => ⟨⟨i + 1, S5, H5, X3, e3, (doIt x c2 y).1, H5.n + 1, cs2 ++ [(doIt x c2 y).2]⟩, R3, by first | omega | (simp only; omega), ⟨rfl, rfl, rfl, rfl, congrArg (Value.int .i64) (inc64 (by omega)), trivial⟩, (g.take 1).castT (show ([(H5.n + 1, ⟨_, true, _⟩)] : List Var) = [(H5.n + 1, ⟨_, true, _⟩)] from T1c e3c)⟩)
  · have k2 : ¬ (i : Int) < (ds.length : Int) := k2
    have he : i = ds.length := by omega
    refine KW.retM rfl rfl rfl rfl (fun id hid => old id hid) (fun H1 g => ?_)
    obtain ⟨q1, q2⟩ := R.done he g
    have q2 : cs2 = codes x (cer0 x.1.1.toNat) ds := q2
    have e4 : i = (codes x (cer0 x.1.1.toNat) ds).length := by rw [← q2, el]
    refine ⟨e2, X2, o2, ?_, int_ml ?_ (g.blk (j := 0) rfl).1 rfl (by show List.map _ cs2 = _; rw [q2]) (Nat.le_refl _), q1⟩
    · rw [← e4, ehd]
      rfl
    · have gv := g.vars 0 _ rfl
      have hn := g.n_
      refine ⟨Nat.not_lt.1 fun hlt => gv.2.2 (old _ hlt).1, ?_⟩
      rw [hn]
      exact gv.2.1
end
end Go.Proofs.YtijmkfnmdhpakaaGreat.Am
/- Contracts: who is named behind the deeds, both sides. Each holds under its own conditions. -/
set_option linter.unusedVariables false
set_option linter.unusedSimpArgs false
set_option maxRecDepth 20000
namespace Go.Proofs.YtijmkfnmdhpakaaGreat.Am
open Go Go.RowKit Go.Proofs
/-- Where a list holds true, counted from i. -/
def markF : List Bool → Int → List Int
  | [], _ => []
  | b :: l, i => if b = true then i :: markF l (i + 1) else markF l (i + 1)
theorem markF_len : ∀ (l : List Bool) (i : Int), (markF l i).length ≤ l.length
  | [], _ => Nat.le_refl _
  | b :: l, i => by
    unfold markF
    have := markF_len l (i + 1)
    split <;> simp <;> omega
section
variable {S : Ids} {H0 : AH} {l : List Bool}
theorem marked {a c} (h12 : l.length ≤ 1048576) (hs : (Kn.bool).Sl S H0 (.slice a l.length c) l) : SpecM Tryz.prog S H0 43 [.slice a l.length c] (MkL (markF l 0)) := by
  refine SpecM.of1 Tryz.func43 rfl (by kernel_rfl) rfl (fun H _ => ?_)
  refine KW.lit rfl rfl rfl rfl rfl rfl rfl rfl rfl rfl [] rfl rfl (fun v hv => by simp at hv) rfl ?_
  refine KW.lpM rfl rfl (fun s : Nat × Nat × List Int => [(3, .slice (some ⟨s.2.1, 0, some 1⟩) s.2.2.length s.2.2.length), (7, .slice a l.length c), (8, .int .i64 l.length), (9, .int .i64 s.1)]) (fun s => Low H.n) (fun s => H) (fun s => [(s.2.1, ⟨2, true, s.2.2.map (Value.int .i64)⟩)]) (fun s => s.1 ≤ l.length ∧ s.2.2.length ≤ s.1 ∧ H.n ≤ s.2.1 ∧ s.2.2 ++ markF (l.drop s.1) s.1 = markF l 0) (fun s => l.length - s.1) ((0, H.n, [])) (⟨Nat.zero_le _, Nat.le_refl _, Nat.le_refl _, rfl⟩) ⟨rfl, rfl, rfl, rfl, trivial⟩ rfl rfl (rfl) (fun s hi bE n => ?_)
  obtain ⟨i, o, ks⟩ := s
  obtain ⟨i1, i2, i3, i4⟩ := hi
  simp only at i1 i2 i3 i4
  refine KW.cnd rfl rfl (fun k1 => ?_) (fun k1 => ?_)
  · have k1 : (i : Int) < (l.length : Int) := k1
    refine KW.getB hs.up rfl rfl rfl rfl rfl rfl rfl rfl rfl rfl rfl rfl rfl rfl rfl rfl (by omega) (k1) (fun y hy => ?_)
    have hy : l[i]? = some y := hy
    have edr : l.drop i = y :: l.drop (i + 1) := by
      rw [List.drop_eq_getElem_cons (List.getElem?_eq_some_iff.1 hy).1]
      rw [(List.getElem?_eq_some_iff.1 hy).2]
    rw [edr] at i4
    refine KW.cnt (fun m hm => ?_)
    refine KW.fact (p := H.n ≤ m) (fun H1 g => g.nle (H1 := H)) (fun hlt => ?_)
    refine KW.cndB rfl rfl (fun k2 => ?ga) (fun k2 => ?gb)
    case ga =>
      have k2 : y = true := k2
      refine KW.lit rfl rfl rfl rfl rfl rfl rfl rfl rfl rfl [.int .i64 i] rfl rfl (fun v hv => by simp at hv; subst hv; rfl) rfl ?_
      refine KW.appTS (m := 1) (ys := [.int .i64 i]) 0 rfl rfl rfl rfl rfl rfl rfl rfl (by decide) rfl (fun H1 g => acells_seg (g.blk (j := 1) rfl).1 (by show 0 + 1 * 1 ≤ 1; decide)) (by show 0 + ks.length * 1 ≤ (ks.map (Value.int .i64)).length; rw [List.length_map]; omega) rfl (by decide) (by show (ks.length + 1) * 8 ≤ _; omega) (by show ks.length + 1 ≤ _; omega) ?_
      have e3c : ((ks.map (Value.int .i64)).drop 0).take (ks.length * 1) ++ [.int .i64 (i : Int)] = (ks ++ [(i : Int)]).map (Value.int .i64) := by rw [drop0_take (by rw [List.length_map]; omega)]; simp
      have el : ks.length + 1 = (ks ++ [(i : Int)]).length := by simp
      have er : (ks ++ [(i : Int)]) ++ markF (l.drop (i + 1)) ((i : Int) + 1) = markF l 0 := by rw [← i4]; conv => { rhs; unfold markF }; rw [if_pos k2]; simp
      refine KW.nxt rfl rfl (fun H' g => ⟨(i + 1, m + 1, ks ++ [(i : Int)]), ⟨by simp only; omega, by simp only [List.length_append, List.length_cons, List.length_nil]; omega, by simp only; omega, by simp only; rw [← er]; rfl⟩, by first | omega | (simp only; omega), ⟨congrArg (fun k => Value.slice (some ⟨m + 1, 0, some 1⟩) k k) el, rfl, rfl, congrArg (Value.int .i64) (inc64 (by omega)), trivial⟩, (g.take 1).castT (show ([(m + 1, ⟨_, true, _⟩)] : List Var) = [(m + 1, ⟨_, true, _⟩)] from T1c e3c)⟩)
    case gb =>
      have k2 : ¬ y = true := by simpa using k2
      have er : ks ++ markF (l.drop (i + 1)) ((i : Int) + 1) = markF l 0 := by rw [← i4]; conv => { rhs; unfold markF }; rw [if_neg k2]
      refine KW.nxt rfl rfl (fun H' g => ⟨(i + 1, o, ks), ⟨by simp only; omega, by simp only; omega, i3, by simp only; rw [← er]; rfl⟩, by first | omega | (simp only; omega), ⟨rfl, rfl, rfl, congrArg (Value.int .i64) (inc64 (by omega)), trivial⟩, g⟩)
  · have k1 : ¬ (i : Int) < (l.length : Int) := k1
    have he : i = l.length := by omega
    rw [he, List.drop_length] at i4
    have er : ks = markF l 0 := by rw [← i4]; simp [markF]
    subst er
    refine KW.retM1 rfl rfl rfl rfl (fun H1 g => ?_)
    exact MkL.of g (j := 0) rfl i3
theorem l08Where {a c} (h12 : l.length ≤ 1048576) (hs : (Kn.bool).Sl S H0 (.slice a l.length c) l) : SpecM Tryz.prog S H0 36 [.slice a l.length c] (MkL (markF l 0)) := by
  refine SpecM.of1 Tryz.func36 rfl (by kernel_rfl) rfl (fun H _ => ?_)
  refine KW.lit rfl rfl rfl rfl rfl rfl rfl rfl rfl rfl [] rfl rfl (fun v hv => by simp at hv) rfl ?_
  refine KW.lpM rfl rfl (fun s : Nat × Nat × List Int => [(0, .slice a l.length c), (3, .slice (some ⟨s.2.1, 0, some 1⟩) s.2.2.length s.2.2.length), (4, .int .i64 s.1)]) (fun s => Low H.n) (fun s => H) (fun s => [(s.2.1, ⟨2, true, s.2.2.map (Value.int .i64)⟩)]) (fun s => s.1 ≤ l.length ∧ s.2.2.length ≤ s.1 ∧ H.n ≤ s.2.1 ∧ s.2.2 ++ markF (l.drop s.1) s.1 = markF l 0) (fun s => l.length - s.1) ((0, H.n, [])) (⟨Nat.zero_le _, Nat.le_refl _, Nat.le_refl _, rfl⟩) ⟨rfl, rfl, rfl, trivial⟩ rfl rfl (rfl) (fun s hi bE n => ?_)
  obtain ⟨i, o, ks⟩ := s
  obtain ⟨i1, i2, i3, i4⟩ := hi
  simp only at i1 i2 i3 i4
  refine KW.cnd rfl rfl (fun k1 => ?_) (fun k1 => ?_)
  · have k1 : (i : Int) < (l.length : Int) := k1
    refine KW.getB hs.up rfl rfl rfl rfl rfl rfl rfl rfl rfl rfl rfl rfl rfl rfl rfl rfl (by omega) (k1) (fun y hy => ?_)
    have hy : l[i]? = some y := hy
    have edr : l.drop i = y :: l.drop (i + 1) := by
      rw [List.drop_eq_getElem_cons (List.getElem?_eq_some_iff.1 hy).1]
      rw [(List.getElem?_eq_some_iff.1 hy).2]
    rw [edr] at i4
    refine KW.cnt (fun m hm => ?_)
    refine KW.fact (p := H.n ≤ m) (fun H1 g => g.nle (H1 := H)) (fun hlt => ?_)
    refine KW.cndB rfl rfl (fun k2 => ?ga) (fun k2 => ?gb)
    case ga =>
      have k2 : y = true := k2
      refine KW.lit rfl rfl rfl rfl rfl rfl rfl rfl rfl rfl [.int .i64 i] rfl rfl (fun v hv => by simp at hv; subst hv; rfl) rfl ?_
      refine KW.appTS (m := 1) (ys := [.int .i64 i]) 0 rfl rfl rfl rfl rfl rfl rfl rfl (by decide) rfl (fun H1 g => acells_seg (g.blk (j := 1) rfl).1 (by show 0 + 1 * 1 ≤ 1; decide)) (by show 0 + ks.length * 1 ≤ (ks.map (Value.int .i64)).length; rw [List.length_map]; omega) rfl (by decide) (by show (ks.length + 1) * 8 ≤ _; omega) (by show ks.length + 1 ≤ _; omega) ?_
      have e3c : ((ks.map (Value.int .i64)).drop 0).take (ks.length * 1) ++ [.int .i64 (i : Int)] = (ks ++ [(i : Int)]).map (Value.int .i64) := by rw [drop0_take (by rw [List.length_map]; omega)]; simp
      have el : ks.length + 1 = (ks ++ [(i : Int)]).length := by simp
      have er : (ks ++ [(i : Int)]) ++ markF (l.drop (i + 1)) ((i : Int) + 1) = markF l 0 := by rw [← i4]; conv => { rhs; unfold markF }; rw [if_pos k2]; simp
      refine KW.nxt rfl rfl (fun H' g => ⟨(i + 1, m + 1, ks ++ [(i : Int)]), ⟨by simp only; omega, by simp only [List.length_append, List.length_cons, List.length_nil]; omega, by simp only; omega, by simp only; rw [← er]; rfl⟩, by first | omega | (simp only; omega), ⟨rfl, congrArg (fun k => Value.slice (some ⟨m + 1, 0, some 1⟩) k k) el, congrArg (Value.int .i64) (inc64 (by omega)), trivial⟩, (g.take 1).castT (show ([(m + 1, ⟨_, true, _⟩)] : List Var) = [(m + 1, ⟨_, true, _⟩)] from T1c e3c)⟩)
    case gb =>
      have k2 : ¬ y = true := by simpa using k2
      have er : ks ++ markF (l.drop (i + 1)) ((i : Int) + 1) = markF l 0 := by rw [← i4]; conv => { rhs; unfold markF }; rw [if_neg k2]
      refine KW.nxt rfl rfl (fun H' g => ⟨(i + 1, o, ks), ⟨by simp only; omega, by simp only; omega, i3, by simp only; rw [← er]; rfl⟩, by first | omega | (simp only; omega), ⟨rfl, rfl, congrArg (Value.int .i64) (inc64 (by omega)), trivial⟩, g⟩)
  · have k1 : ¬ (i : Int) < (l.length : Int) := k1
    have he : i = l.length := by omega
    rw [he, List.drop_length] at i4
    have er : ks = markF l 0 := by rw [← i4]; simp [markF]
    subst er
    refine KW.retM1 rfl rfl rfl rfl (fun H1 g => ?_)
    exact MkL.of g (j := 0) rfl i3
end
end Go.Proofs.YtijmkfnmdhpakaaGreat.Am
/- Contracts: NamedAfter, both sides. Each holds under its own conditions. -/
set_option linter.unusedVariables false
set_option linter.unusedSimpArgs false
set_option maxRecDepth 20000
namespace Go.Proofs.YtijmkfnmdhpakaaGreat.Am
open Go Go.RowKit Go.Proofs
/-- The hall behind the deeds, plain. -/
noncomputable def behind (x : T_Deal) (ds : List T_Deed) : Cer := play x (cer0 x.1.1.toNat) ds
theorem behind_ok {x : T_Deal} {ds : List T_Deed} (hd : DealOk x) (hdp : ∀ d ∈ ds, DeedP d) : CerOk x (behind x ds) := CerOk.play hd ds hdp (CerOk.start hd)
noncomputable def r0_NamedAfter (x : T_Deal) (ds : T_DeedS) : List Int := if givenC x ds = 0 then markF (behind x ds).named 0 else []
noncomputable def r1_NamedAfter (x : T_Deal) (ds : T_DeedS) : Int := givenC x ds
theorem bound_NamedAfter {x : T_Deal} {ds : T_DeedS} (hB : B_Deal x) (hBd : B_DeedS ds) : B_Int64S (r0_NamedAfter x ds) := by
  unfold r0_NamedAfter
  split
  · rename_i h
    obtain ⟨hd, hdp, _⟩ := given0 h
    have ok := behind_ok hd hdp
    have := markF_len (behind x ds).named 0
    have h1 := ok.nl
    have h2 := ok.sl
    have h7 := hd.sch.h7
    show _ ≤ _
    omega
  · show (0 : Nat) ≤ _
    omega
section
variable {S : Ids} {H0 : AH} {x : T_Deal} {ds : T_DeedS} {dcs : List Value}
theorem impl_NamedAfter {a c} (hB : B_Deal x) (hBd : B_DeedS ds) (hD : K_Deal.R S H0 x dcs) (hs : K_DeedS.R S H0 ds [.slice a ds.length c]) : SpecM Tryz.prog S H0 12 [.agg dcs.toArray, .slice a ds.length c] (MkLC (r0_NamedAfter x ds) (r1_NamedAfter x ds)) := by
  have hs := sl1 hs
  obtain ⟨d1, d2, d3, d4, d5, d6, d7, d8, rfl⟩ := form_Deal hD
  refine SpecM.of1 Tryz.func12 rfl (by kernel_rfl) rfl (fun H _ => ?_)
  have hD0 : K_Deal.R (Low H.n) H x _ := On.R hD
  have hs0 := hs.up (S' := Low H.n) (H' := H)
  refine KW.callE rfl rfl rfl rfl rfl (deedsCode hB hBd.len hD0 hs0) (fun _ _ => ?_)
  unfold r0_NamedAfter r1_NamedAfter
  refine KW.cndB rfl rfl (fun k1 => ?_) (fun k1 => ?_)
  · have k1 : givenC x ds ≠ 0 := by simpa using k1
    rw [if_neg k1]
    refine KW.retM1 rfl rfl rfl rfl (fun H1 g => MkLC.nil rfl)
  have k1 : givenC x ds = 0 := by simpa using k1
  rw [if_pos k1, k1]
  obtain ⟨hd, hdp, h400⟩ := given0 k1
  have ok := behind_ok hd hdp
  refine KW.fact (fun _ g => g.nle (H1 := H)) (fun hn0 => ?_)
  refine KW.callN1 rfl rfl rfl rfl rfl (implAfter hd hdp h400 hB hD0 hs0) (fun v H1 S1 m1 _ _ hv => ?_)
  obtain ⟨d, X, rfl, hh⟩ := hv
  have hh1 := hh.on (S' := S1) (A' := H1)
  have hc := hh1.cellsH
  obtain ⟨hn1, hn2⟩ := hh1.named
  have h12 : (behind x ds).named.length ≤ 1048576 := by have h1 := ok.nl; have h2 := ok.sl; have h7 := hd.sch.h7; omega
  refine KW.ldF 5 hc rfl rfl rfl rfl rfl rfl rfl rfl rfl ?_
  refine KW.callN1 rfl rfl rfl rfl rfl (marked h12 (bool_sl hn1 hn2 rfl (Nat.le_refl _))) (fun v H2 S2 m2 _ _ hv => ?_)
  obtain ⟨a2, q2, rfl, hM⟩ := hv
  refine KW.retM1 rfl rfl rfl rfl (fun H1 g => ⟨_, _, rfl, ml1' (g.made (by omega) hM)⟩)
theorem spec_NamedAfter {a c} (hB : B_Deal x) (hBd : B_DeedS ds) (hD : K_Deal.R S H0 x dcs) (hs : K_DeedS.R S H0 ds [.slice a ds.length c]) : SpecM Tryz.prog S H0 9 [.agg dcs.toArray, .slice a ds.length c] (MkLC (r0_NamedAfter x ds) (r1_NamedAfter x ds)) := by
  have hs := sl1 hs
  obtain ⟨d1, d2, d3, d4, d5, d6, d7, d8, rfl⟩ := form_Deal hD
  refine SpecM.of1 Tryz.func9 rfl (by kernel_rfl) rfl (fun H _ => ?_)
  have hD0 : K_Deal.R (Low H.n) H x _ := On.R hD
  have hs0 := hs.up (S' := Low H.n) (H' := H)
  refine KW.callWF 0 rfl rfl rfl rfl rfl rfl (fun A9 S9 hn9 hS9 t9 hm9 ho9 hno9 hlt9 => ?_)
  have k9 : ∀ id, id < H.n → S9 id ∧ A9.m id = H.m id := fun id p => t9.st id p
  have hD9 : K_Deal.R S9 A9 x _ := K_Deal.same (fun id p => (k9 id p).2) hD0 |> K_Deal.more (fun id p => (k9 id p).1)
  have hDv9 : Has3 S9 A9 H.n 0 [.int .i64 x.1.1, .slice d1 x.1.2.1.length d2, .int .i64 x.1.2.2.1, .int .i64 x.1.2.2.2.1, .slice d3 x.1.2.2.2.2.length d4, .int .i64 x.2.1, .slice d5 x.2.2.1.length d6, .slice d7 x.2.2.2.length d8] := ⟨(hS9 _).2 (.inr rfl), _, hm9, fun i v hv => by rw [Nat.zero_add]; exact hv⟩
  have hs9 : K_Deed.Sl S9 A9 (.slice a ds.length c) ds := sl_mk hs0 (fun id p => k9 id p)
  refine ⟨fun _ => False, _, fun id p => p.elim, SpecM.w (post := fun _ v _ => v = .int .i64 (givenC x ds)) (l08Given hB hBd.len hD9 hDv9 hs9), fun v H1 S1 m1 t1 w1 hv => ?_⟩
  obtain rfl := hv
  have k1a : ∀ id, S9 id → S1 id ∧ H1.m id = A9.m id := fun id p => ⟨(t1 id p).1, (t1 id p).2 (fun q => q)⟩
  have kl : ∀ id, id < H.n → S1 id ∧ H1.m id = H.m id := fun id p => ⟨(k1a id (k9 id p).1).1, ((k1a id (k9 id p).1).2).trans (k9 id p).2⟩
  unfold r0_NamedAfter r1_NamedAfter
  refine KW.cndB rfl rfl (fun k1 => ?_) (fun k1 => ?_)
  · have k1 : givenC x ds ≠ 0 := by simpa using k1
    rw [if_neg k1]
    refine KW.lit rfl rfl rfl rfl rfl rfl rfl rfl rfl rfl [] rfl rfl (fun v hv => by simp at hv) rfl ?_
    exact KW.retM rfl rfl rfl rfl (fun id hid => kl id hid) (fun H1 g => MkLC.nil' rfl)
  have k1 : givenC x ds = 0 := by simpa using k1
  rw [if_pos k1, k1]
  obtain ⟨hd, hdp, h400⟩ := given0 k1
  have ok := behind_ok hd hdp
  have hD1 : K_Deal.R S1 H1 x _ := K_Deal.same (fun id p => (k1a id p).2) hD9 |> K_Deal.more (fun id p => (k1a id p).1)
  have hs1 : K_Deed.Sl S1 H1 (.slice a ds.length c) ds := sl_mk hs9 (fun id p => k1a id p)
  have mvH : ∀ {vs : List Value}, Has3 S9 A9 H.n 0 vs → Has3 S1 H1 H.n 0 vs := fun {vs} q => by
    obtain ⟨q0, b, q1, q2⟩ := q
    exact ⟨(k1a _ q0).1, b, ((k1a _ q0).2).trans q1, q2⟩
  have hDv1 := mvH hDv9
  refine KW.callN1 rfl rfl rfl rfl rfl (l08PlayH hd hdp h400 hB hD1 hDv1 hs1) (fun v H2 S2 m2 _ _ hv => ?_)
  obtain ⟨d, X, o, rfl, hM, hh⟩ := hv
  have st2 := (inferInstance : On S1 H1 S2 H2).st
  have hh1 := hh.on (S' := S2) (A' := H2)
  have hc := hh1.cellsH
  obtain ⟨hn1, hn2⟩ := hh1.named
  have h12 : (behind x ds).named.length ≤ 1048576 := by have h1 := ok.nl; have h2 := ok.sl; have h7 := hd.sch.h7; omega
  refine KW.ldF 6 hc rfl rfl rfl rfl rfl rfl rfl rfl rfl ?_
  refine KW.callN1 rfl rfl rfl rfl rfl (l08Where h12 (bool_sl hn1 hn2 rfl (Nat.le_refl _))) (fun v H3 S3 m3 _ _ hv => ?_)
  obtain ⟨a2, q2, rfl, hM3⟩ := hv
  have st3 := (inferInstance : On S2 H2 S3 H3).st
  exact KW.retM rfl rfl rfl rfl (fun id hid => ⟨(st3 id (st2 id (kl id hid).1).1).1, ((st3 id (st2 id (kl id hid).1).1).2).trans (((st2 id (kl id hid).1).2).trans (kl id hid).2)⟩) (fun H1 g => ⟨_, _, rfl, ml1' (g.made (by omega) hM3)⟩)
end
end Go.Proofs.YtijmkfnmdhpakaaGreat.Am
/- Contract: CeremonyAfter, the reference's side. Each holds under its own conditions. -/
set_option linter.unusedVariables false
set_option linter.unusedSimpArgs false
set_option maxRecDepth 20000
namespace Go.Proofs.YtijmkfnmdhpakaaGreat.Am
open Go Go.RowKit Go.Proofs
def toCer (c : Cer) : T_Ceremony := (c.ep, c.seats, (c.oe, c.got, c.has, c.named), c.wire)
def cerZ : T_Ceremony := (0, [], (0, [], [], []), [])
theorem slnil {α : Type} {d : Kn α} {S : Ids} {A : AH} : d.sl.R S A [] [.slice none 0 0] := sl1' (.inl ⟨rfl, none, 0, rfl, fun _ => rfl⟩)
theorem mk_Ceremony_ {S : Ids} {A : AH} {x : T_Ceremony} {v1 v2 v3 v4 v5 : Value} (h1 : K_SeatS.R S A x.2.1 [v1]) (h2 : K_Int64SS.R S A x.2.2.1.2.1 [v2]) (h3 : K_FlagS.R S A x.2.2.1.2.2.1 [v3]) (h4 : K_FlagS.R S A x.2.2.1.2.2.2 [v4]) (h5 : K_PacketS.R S A x.2.2.2 [v5]) : K_Ceremony.R S A x [.int .i64 x.1, v1, .int .i64 x.2.2.1.1, v2, v3, v4, v5] :=
  ⟨[.int .i64 x.1], _, rfl, rfl, [v1], _, rfl, h1, [.int .i64 x.2.2.1.1, v2, v3, v4], [v5], rfl, ⟨[.int .i64 x.2.2.1.1], _, rfl, rfl, [v2], _, rfl, h2, [v3], [v4], rfl, h3, h4⟩, h5⟩
theorem Hl.ceremony {t : HT} {pre post : List Value} {S X : Ids} {A : AH} {d : HD} {c : Cer} (h : Hl t pre post S A X d c) : K_Ceremony.R S A (toCer c) [.int .i64 c.ep, .slice (some ⟨d.sid, 0, some 7⟩) c.seats.length c.seats.length, .int .i64 c.oe, .slice (some ⟨d.gid, 0, some 1⟩) c.got.length c.got.length, .slice (some ⟨d.bid, 0, some 1⟩) c.has.length c.has.length, .slice (some ⟨d.nid, 0, some 1⟩) c.named.length c.named.length, d.wv c.wire.length] := by
  obtain ⟨g0, gcs, g1, g2, g3⟩ := h.got
  obtain ⟨b0, b1⟩ := h.has
  obtain ⟨n0, n1⟩ := h.named
  exact mk_Ceremony_ (x := toCer c) (sl1' h.seatSl) (sl1' (Cl.sl g3 g0 g1 rfl h.sx (Nat.le_refl _))) (sl1' (bool_sl b0 b1 rfl (Nat.le_refl _))) (sl1' (bool_sl n0 n1 rfl (Nat.le_refl _))) (sl1' h.wireSl)
theorem built_Cer0 : Tryz.prog.built 61 [] = some #[.int .i64 0, .slice none 0 0, .int .i64 0, .slice none 0 0, .slice none 0 0, .slice none 0 0, .slice none 0 0] := by kernel_rfl
noncomputable def r0_CeremonyAfter (x : T_Deal) (ds : T_DeedS) : T_Ceremony := if givenC x ds = 0 then toCer (behind x ds) else cerZ
noncomputable def r1_CeremonyAfter (x : T_Deal) (ds : T_DeedS) : Int := if givenC x ds = 0 then ((doneC (codes x (cer0 x.1.1.toNat) ds) : Nat) : Int) else 0
noncomputable def r2_CeremonyAfter (x : T_Deal) (ds : T_DeedS) : Int := givenC x ds
theorem cerZ_K {S : Ids} {A : AH} : K_Ceremony.R S A cerZ [.int .i64 0, .slice none 0 0, .int .i64 0, .slice none 0 0, .slice none 0 0, .slice none 0 0, .slice none 0 0] := mk_Ceremony_ (x := cerZ) slnil slnil slnil slnil slnil
section
variable {S : Ids} {H0 : AH} {x : T_Deal} {ds : T_DeedS} {dcs : List Value}
theorem spec_CeremonyAfter {a c} (hB : B_Deal x) (hBd : B_DeedS ds) (hD : K_Deal.R S H0 x dcs) (hs : K_DeedS.R S H0 ds [.slice a ds.length c]) : SpecM Tryz.prog S H0 24 [.agg dcs.toArray, .slice a ds.length c] (fun n v H1 => ∃ cs : List Value, v = .tuple #[.agg cs.toArray, .int .i64 (r1_CeremonyAfter x ds), .int .i64 (r2_CeremonyAfter x ds)] ∧ K_Ceremony.R (New n H1.n) H1 (r0_CeremonyAfter x ds) cs) := by
  have hs := sl1 hs
  obtain ⟨d1, d2, d3, d4, d5, d6, d7, d8, rfl⟩ := form_Deal hD
  refine SpecM.of1 Tryz.func24 rfl (by kernel_rfl) rfl (fun H _ => ?_)
  have hD0 : K_Deal.R (Low H.n) H x _ := On.R hD
  have hs0 := hs.up (S' := Low H.n) (H' := H)
  refine KW.callV1 rfl rfl rfl rfl rfl (fun H1 g _ => l08Given hB hBd.len (On.R hD) (g.has (j := 0) rfl rfl) hs.up) (fun _ _ => ?_)
  unfold r0_CeremonyAfter r1_CeremonyAfter r2_CeremonyAfter
  refine KW.cndB rfl rfl (fun k1 => ?_) (fun k1 => ?_)
  · have k1 : givenC x ds ≠ 0 := by simpa using k1
    rw [if_neg k1, if_neg k1]
    refine KW.build rfl rfl rfl rfl rfl (built_Cer0) ?_
    refine KW.retM1 rfl rfl rfl rfl (fun H1 g => ⟨_, rfl, cerZ_K⟩)
  have k1 : givenC x ds = 0 := by simpa using k1
  rw [if_pos k1, if_pos k1, k1]
  obtain ⟨hd, hdp, h400⟩ := given0 k1
  have ok := behind_ok hd hdp
  refine KW.cnt (fun n1 hn1 => ?_)
  refine KW.fact (p := H.n ≤ n1) (fun _ g => g.nle (H1 := H)) (fun hn0 => ?_)
  refine KW.callNV1 rfl rfl rfl rfl rfl (fun H1 g _ => l08PlayH hd hdp h400 hB (On.R hD) (g.has (j := 0) rfl rfl) hs.up) (fun v H2 S2 m2 _ _ hv => ?_)
  obtain ⟨d, X, oo, rfl, hM, hh⟩ := hv
  have hh1 := hh.on (S' := S2) (A' := H2)
  have hc := hh1.cellsH
  have hha := hh1.hall
  have hclen : (codes x (cer0 x.1.1.toNat) ds).length ≤ 400 := by rw [codes_len]; exact h400
  obtain ⟨ks, hks⟩ : ∃ ks, codes x (cer0 x.1.1.toNat) ds = ks := ⟨_, rfl⟩
  rw [hks] at hM hclen
  rw [hks]
  have hK := hh.ceremony
  obtain ⟨cb, hcb⟩ : ∃ cb, behind x ds = cb := ⟨_, rfl⟩
  have hcp : play x (cer0 x.1.1.toNat) ds = cb := hcb
  have hwi := hh1.wire
  rw [hcp] at hha hK hwi
  rw [hcb]
  obtain ⟨hid, sid, gid, bid, nid, w⟩ := d
  obtain ⟨aw, cw, hwv⟩ : ∃ aw cw, HD.wv ⟨hid, sid, gid, bid, nid, w⟩ cb.wire.length = .slice aw cb.wire.length cw := by
    cases w with
    | none =>
      have e : cb.wire = [] := hwi
      rw [e]
      exact ⟨none, 0, rfl⟩
    | some iq => exact ⟨_, _, rfl⟩
  have hha2 : H2.m hid = some ⟨78, true, [.pointer (some ⟨H.n, 0, none⟩), .int .i64 cb.ep, .slice (some ⟨sid, 0, some 7⟩) cb.seats.length cb.seats.length, .int .i64 cb.oe, .slice (some ⟨gid, 0, some 1⟩) cb.got.length cb.got.length, .slice (some ⟨bid, 0, some 1⟩) cb.has.length cb.has.length, .slice (some ⟨nid, 0, some 1⟩) cb.named.length cb.named.length, .slice aw cb.wire.length cw]⟩ := by
    have h := hha.2
    simp only [HD.cells, hwv] at h
    exact h
  simp only [hwv] at hK
  refine KW.lp rfl rfl (fun i : Nat => [(4, .pointer (some ⟨H.n + 1, 0, some 1⟩)), (8, .pointer (some ⟨hid, 0, none⟩)), (9, .slice (some ⟨oo, 0, some 1⟩) ks.length ks.length), (10, .int .i64 (doneC (ks.take i) : Nat)), (11, .int .i64 i)]) (fun i => i ≤ ks.length) (fun i => ks.length - i) (0) (Nat.zero_le _) ⟨rfl, rfl, rfl, rfl, rfl, trivial⟩ (fun i hi bE n => ?_)
  refine KW.cnd rfl rfl (fun k2 => ?_) (fun k2 => ?_)
  · have k2 : (i : Int) < (ks.length : Int) := k2
    refine KW.getI hM.sl.up rfl rfl rfl rfl rfl rfl rfl rfl rfl rfl rfl rfl rfl rfl rfl rfl (by omega) (k2) (fun y hy => ?_)
    have hy : ks[i]? = some y := hy
    have et : ks.take (i + 1) = ks.take i ++ [y] := by rw [List.take_add_one, hy]; rfl
    have hsn := doneC_snoc y (ks.take i)
    have hle := doneC_le (ks.take i)
    rw [List.length_take] at hle
    refine KW.cnd rfl rfl (fun k3 => ?ga) (fun k3 => ?gb)
    case ga =>
      have k3 : y = 0 := k3
      rw [if_pos k3] at hsn
      have ew : IntKind.i64.wrap ((doneC (ks.take i) : Nat) + 1) = ((doneC (ks.take (i + 1)) : Nat) : Int) := by rw [et, hsn, wr (by omega) (by omega)]; omega
      refine KW.nxt rfl rfl (fun H' g => ⟨i + 1, by omega, by first | omega | (simp only; omega), ⟨rfl, rfl, rfl, congrArg (Value.int .i64) ew, congrArg (Value.int .i64) (inc64 (by omega)), trivial⟩, g⟩)
    case gb =>
      have k3 : ¬ y = 0 := k3
      rw [if_neg k3] at hsn
      have ew : ((doneC (ks.take i) : Nat) : Int) = ((doneC (ks.take (i + 1)) : Nat) : Int) := by rw [et, hsn]; rfl
      refine KW.nxt rfl rfl (fun H' g => ⟨i + 1, by omega, by first | omega | (simp only; omega), ⟨rfl, rfl, rfl, congrArg (Value.int .i64) ew, congrArg (Value.int .i64) (inc64 (by omega)), trivial⟩, g⟩)
  have k2 : ¬ (i : Int) < (ks.length : Int) := k2
  obtain rfl : i = ks.length := by omega
  rw [List.take_length]
  refine KW.ldP hha.1 hha2 rfl rfl rfl rfl rfl (bload_seg (ps := [.int .i64 cb.ep, .slice (some ⟨sid, 0, some 7⟩) cb.seats.length cb.seats.length, .int .i64 cb.oe, .slice (some ⟨gid, 0, some 1⟩) cb.got.length cb.got.length, .slice (some ⟨bid, 0, some 1⟩) cb.has.length cb.has.length, .slice (some ⟨nid, 0, some 1⟩) cb.named.length cb.named.length, .slice aw cb.wire.length cw]) rfl rfl rfl (by show 1 + 7 ≤ 8; decide) rfl) ?_
  refine KW.retM1 rfl rfl rfl rfl (fun H1 g => ⟨_, rfl, ?_⟩)
  have o2 := (inferInstance : On (New n1 H2.n) H2 S2 H2).st
  refine (K_Ceremony).more (S := New n1 H2.n) (fun id p => ⟨by have := p.1; omega, ?_⟩) ((K_Ceremony).same (fun id p => (g.froz id (o2 id p).1).2) hK)
  have := (g.froz id (o2 id p).1).1
  have := g.n_
  omega
end
end Go.Proofs.YtijmkfnmdhpakaaGreat.Am
/- A list that is built by appending, its rows new. Each holds under its own conditions. -/
set_option linter.unusedVariables false
set_option linter.unusedSimpArgs false
set_option maxRecDepth 20000
namespace Go.Proofs.YtijmkfnmdhpakaaGreat.Am
open Go Go.RowKit Go.Proofs
/-- The first i elements of xs stand in the cells cs; their rows V stand apart from each other, none older than lo. -/
structure AppI {α : Type} (M : Kn α) (xs : List α) (lo i : Nat) (S : Ids) (A : AH) (V : Ids) (cs : List Value) : Prop where
  le : i ≤ xs.length
  len : cs.length = i * M.es
  sub : ∀ id, V id → S id ∧ lo ≤ id
  rows : ∃ Ws : Nat → Ids, (∀ j id, Ws j id → V id) ∧ (∀ j k id, Ws j id → Ws k id → j = k) ∧ ∀ (j : Nat) x, j < i → xs[j]? = some x → M.R (Ws j) A x ((cs.drop (j * M.es)).take M.es)
section
variable {α : Type} {M : Kn α} {xs : List α} {lo i : Nat} {S S' V X : Ids} {A A' H1 : AH} {cs ys : List Value}
theorem AppI.zero : AppI M xs lo 0 S A (fun _ => False) [] := ⟨Nat.zero_le _, by simp, fun _ p => p.elim, fun _ _ => False, fun _ _ p => p.elim, fun _ _ _ p => p.elim, fun _ _ h => absurd h (by omega)⟩
theorem AppI.up (h : AppI M xs lo i S A V cs) (t : ∀ id, S id → S' id ∧ A'.m id = A.m id) : AppI M xs lo i S' A' V cs := by
  obtain ⟨Ws, w1, w2, w3⟩ := h.rows
  exact ⟨h.le, h.len, fun id p => ⟨(t id (h.sub id p).1).1, (h.sub id p).2⟩, Ws, w1, w2, fun j x hj hx => M.same (fun id p => (t id (h.sub id (w1 j id p)).1).2) (w3 j x hj hx)⟩
theorem AppI.next (h : AppI M xs lo i S A V cs) {y : α} (hy : xs[i]? = some y) (hl : ys.length = M.es) (hX : ∀ id, X id → S id ∧ lo ≤ id ∧ ¬ V id) (hr : M.R X A y ys) : AppI M xs lo (i + 1) S A (fun id => V id ∨ X id) (cs ++ ys) := by
  obtain ⟨Ws, w1, w2, w3⟩ := h.rows
  have hlen := h.len
  refine ⟨(List.getElem?_eq_some_iff.1 hy).1, by rw [List.length_append, hlen, hl, Nat.succ_mul], fun id p => p.elim (h.sub id) (fun p => ⟨(hX id p).1, (hX id p).2.1⟩), fun j id => (j < i ∧ Ws j id) ∨ (j = i ∧ X id), fun j id p => p.elim (fun p => .inl (w1 j id p.2)) (fun p => .inr p.2), fun j k id p q => ?_, fun j x hj hx => ?_⟩
  · rcases p with p | p <;> rcases q with q | q
    · exact w2 j k id p.2 q.2
    · exact absurd (w1 j id p.2) (hX id q.2).2.2
    · exact absurd (w1 k id q.2) (hX id p.2).2.2
    · omega
  · by_cases e : j = i
    · subst e
      obtain rfl : y = x := Option.some.inj (hy.symm.trans hx)
      rw [← hlen, List.drop_left, ← hl, List.take_length]
      exact M.more (fun id p => .inr ⟨rfl, p⟩) hr
    · have hj : j < i := by omega
      have := mul_le' (e := M.es) hj
      rw [List.drop_append_of_le_length (by omega), List.take_append_of_le_length (by rw [List.length_drop]; omega)]
      exact M.more (fun id p => .inl ⟨hj, p⟩) (w3 j x hj hx)
/-- What has been built. -/
theorem AppI.ml {W : Ids} {o c : Nat} {ty : TypeId} (h : AppI M xs lo i S A V cs) (he : i = xs.length) (ho : W o) (hVo : ¬ V o) (hm : H1.m o = some ⟨ty, true, cs⟩) (hV : ∀ id, V id → W id ∧ H1.m id = A.m id) (hc : xs.length ≤ c) : M.Ml W H1 (.slice (some ⟨o, 0, some M.es⟩) xs.length c) xs := by
  obtain ⟨Ws, w1, w2, w3⟩ := h.rows
  subst he
  refine .inr ⟨o, c, _, Ws, rfl, hc, ho, hm, rfl, by rw [h.len]; exact Nat.le_refl _, fun j id p => ⟨(hV id (w1 j id p)).1, fun e => hVo (e ▸ w1 j id p)⟩, fun j k id => w2 j k id, fun j x hx => ?_⟩
  have hj := (List.getElem?_eq_some_iff.1 hx).1
  rw [Nat.zero_add]
  exact M.same (fun id p => (hV id (w1 j id p)).2) (w3 j x hj hx)
end
end Go.Proofs.YtijmkfnmdhpakaaGreat.Am
/- Contracts: a ceremony is copied: purses, truth values. Each holds under its own conditions. -/
set_option linter.unusedVariables false
set_option linter.unusedSimpArgs false
set_option maxRecDepth 20000
namespace Go.Proofs.YtijmkfnmdhpakaaGreat.Am
open Go Go.RowKit Go.Proofs
section
variable {S : Ids} {H0 : AH} {a : Option Addr} {c : Nat}
theorem cloneM {xs : List Int} (hB : B_Int64S xs) (hs : K_Int64S.R S H0 xs [.slice a xs.length c]) : SpecM Tryz.prog S H0 84 [.slice a xs.length c] (fun n v H1 => ∃ a c, v = .slice a xs.length c ∧ M_Int64S.R (New n H1.n) H1 xs [.slice a xs.length c]) := fun H hf hz => by
  obtain ⟨m, v, H1, h1, h2, h3, h4⟩ := cloneI hB (sl1 hs) H hf hz
  obtain ⟨a, c, rfl, h5⟩ := h4
  exact ⟨m, _, H1, h1, h2, h3, a, c, rfl, ml1' h5⟩
theorem copyPurse {x : T_Purse} {cs : List Value} (hB : B_Purse x) (h : K_Purse.R S H0 x cs) : SpecM Tryz.prog S H0 82 [.agg cs.toArray] (fun n v H1 => ∃ cs, v = .agg cs.toArray ∧ M_Purse.R (New n H1.n) H1 x cs) := by
  obtain ⟨a1, c1, a2, c2, rfl, h1, h2⟩ := splitk_Purse h
  refine SpecM.of1 Tryz.func82 rfl (by kernel_rfl) rfl (fun H _ => ?_)
  refine KW.callN1 rfl rfl rfl rfl rfl (cloneM hB.2.1 (On.R h1)) (fun v G1 S1 m1 _ _ hv => ?_)
  obtain ⟨b1, d1, rfl, g1⟩ := hv
  refine KW.callN1 rfl rfl rfl rfl rfl (cloneM hB.2.2 (On.R h2)) (fun v G2 S2 m2 _ _ hv => ?_)
  obtain ⟨b2, d2, rfl, g2⟩ := hv
  refine KW.build rfl rfl rfl rfl rfl (built_Purse _ _ _ _ _ _ _) ?_
  refine KW.retM1 rfl rfl rfl rfl (fun H1 g => ?_)
  refine ⟨_, rfl, ?_⟩
  have k2 : M_Int64S.R (New G1.n H1.n) H1 x.2.2 [.slice b2 x.2.2.length d2] := (M_Int64S).more (g.inn (H := G2) (fun _ p => by have := p.1; omega)) (g.keep g2)
  have k1 : (Kn.mp (M_Int64S) (M_Int64S)).R (New H.n H1.n) H1 (x.2) [.slice b1 x.2.1.length d1, .slice b2 x.2.2.length d2] := mpR (g.keep g1) k2 (g.inn (H := G1) (fun _ p => by have := p.1; omega)) (fun _ p => ⟨by have := p.1; have := m1; omega, p.2⟩) (fun _ o p => by have := o.2; have := p.1; omega)
  have k0 : (Kn.mp (KI) (Kn.mp (M_Int64S) (M_Int64S))).R (New H.n H1.n) H1 (x) [.int .i64 x.1, .slice b1 x.2.1.length d1, .slice b2 x.2.2.length d2] := mpR (X := None_) (show KI.R None_ H1 _ [.int .i64 x.1] from rfl) k1 (fun _ p => p.elim) (fun _ p => p) (fun _ p _ => p.elim)
  exact k0
theorem bool_ml {W : Ids} {A : AH} {o c : Nat} {ty : TypeId} {xs : List Bool} (hW : W o) (hm : A.m o = some ⟨ty, true, xs.map Value.bool⟩) (hl : xs.length ≤ c) : M_FlagS.R W A xs [.slice (some ⟨o, 0, some 1⟩) xs.length c] :=
  ml1' (.inr ⟨o, c, _, fun _ _ => False, rfl, hl, hW, hm, rfl, by show xs.length * 1 ≤ (xs.map Value.bool).length; simp, fun _ _ p => p.elim, fun _ _ _ p => p.elim, fun i x hx => by
    show ((xs.map Value.bool).drop (0 + i * 1)).take 1 = [.bool x]
    rw [List.take_one, Nat.zero_add, Nat.mul_one, List.head?_drop, List.getElem?_map, hx]
    rfl⟩)
theorem cloneFlag {id : Nat} {ty : TypeId} {xs : List Bool} (hl : xs.length ≤ 1048576) (hS : S id) (hm : H0.m id = some ⟨ty, true, xs.map Value.bool⟩) : SpecM Tryz.prog S H0 83 [.slice (some ⟨id, 0, some 1⟩) xs.length xs.length] (fun n v H1 => ∃ o, v = .slice (some ⟨o, 0, some 1⟩) xs.length xs.length ∧ New n H1.n o ∧ H1.m o = some ⟨4, true, xs.map Value.bool⟩) := by
  refine SpecM.of1 Tryz.func83 rfl (by kernel_rfl) rfl (fun H _ => ?_)
  have o1 := (inferInstance : On S H0 (Low H.n) H).st id hS
  refine KW.cF rfl rfl (by first | (simp; done) | decide) ?_
  refine KW.lit rfl rfl rfl rfl rfl rfl rfl rfl rfl rfl [] rfl rfl (fun v hv => by simp at hv) rfl ?_
  refine KW.appU 0 rfl rfl rfl rfl rfl rfl rfl rfl (by decide) rfl (m := xs.length) (ys := xs.map Value.bool) (by rfl) (by show _ = _ * 1; simp) (fun H1 g => ?_) (by simp [Value.oneCell']) (by show (0 + xs.length) * 1 ≤ _; omega) (by show 0 + xs.length ≤ _; omega) (fun o2 n2 ho2 hn2 => ?_)
  · have := acells_seg (es := 1) (off := 0) (m := xs.length) (c := xs.length) ((g.froz id o1.1).2.trans (o1.2.trans hm)) (by show 0 + xs.length * 1 ≤ (xs.map Value.bool).length; simp)
    refine this.trans ?_
    rw [drop0_take (by simp)]
  · refine KW.retM1 rfl rfl rfl rfl (fun H1 g => ⟨o2, ?_, ?_, ?_⟩)
    · show Value.slice (some ⟨o2, 0, some 1⟩) (0 + xs.length) (0 + xs.length) = _
      rw [Nat.zero_add]
    · have gv := g.vars 0 _ rfl
      have hn := g.n_
      exact ⟨Nat.not_lt.1 fun hlt => gv.2.2 hlt, by rw [hn]; exact gv.2.1⟩
    · exact (g.blk (j := 0) rfl).1
end
end Go.Proofs.YtijmkfnmdhpakaaGreat.Am
/- Contract: a ceremony is copied. Each holds under its own conditions. -/
set_option linter.unusedVariables false
set_option linter.unusedSimpArgs false
set_option maxRecDepth 20000
namespace Go.Proofs.YtijmkfnmdhpakaaGreat.Am
open Go Go.RowKit Go.Proofs
theorem built_SeatI (a b c d e f : Value) (k : Int) : Tryz.prog.built 101 [(0, .agg #[a, b, c]), (1, .agg #[d, e, f]), (2, .int .i64 k)] = some #[a, b, c, d, e, f, .int .i64 k] := by kernel_rfl
theorem built_Cer1 (k : Int) : Tryz.prog.built 61 [(0, .int .i64 k)] = some #[.int .i64 k, .slice none 0 0, .int .i64 0, .slice none 0 0, .slice none 0 0, .slice none 0 0, .slice none 0 0] := by kernel_rfl
theorem built_OpenerH (k : Int) (o2 o3 : Option Addr) (n2 c2 n3 c3 : Nat) : Tryz.prog.built 58 [(0, .int .i64 k), (2, .slice o2 n2 c2), (3, .slice o3 n3 c3)] = some #[.int .i64 k, .slice none 0 0, .slice o2 n2 c2, .slice o3 n3 c3] := by kernel_rfl
theorem Good.pick4 {S : Ids} {H0 H : AH} {a b c d e f : Var} {n : Nat} (g : Good S H0 [a, b, c, d, e, f] n H) : Good S H0 [a, b, c, f] n H := by
  refine g.sub (fun i => if i < 3 then i else i + 2) (fun i j h => by split at h <;> split at h <;> omega) (fun i u hi => ?_)
  match i, hi with
  | 0, hi => exact hi
  | 1, hi => exact hi
  | 2, hi => exact hi
  | 3, hi => exact hi
  | i + 4, hi => simp at hi
theorem Good.pick5b {S : Ids} {H0 H : AH} {a b c d e f : Var} {n : Nat} (g : Good S H0 [a, b, c, d, e, f] n H) : Good S H0 [a, b, c, d, f] n H := by
  refine g.sub (fun i => if i < 4 then i else i + 1) (fun i j h => by split at h <;> split at h <;> omega) (fun i u hi => ?_)
  match i, hi with
  | 0, hi => exact hi
  | 1, hi => exact hi
  | 2, hi => exact hi
  | 3, hi => exact hi
  | 4, hi => exact hi
  | i + 5, hi => simp at hi
theorem T5d {a b c d : Var} {i : Nat} {ty : TypeId} {cs cs' : List Value} (h : cs = cs') : ([a, b, c, d, (i, ⟨ty, true, cs⟩)] : List Var) = [a, b, c, d, (i, ⟨ty, true, cs'⟩)] := by rw [h]
theorem T4c {a b c : Var} {i : Nat} {ty : TypeId} {cs cs' : List Value} (h : cs = cs') : ([a, b, c, (i, ⟨ty, true, cs⟩)] : List Var) = [a, b, c, (i, ⟨ty, true, cs'⟩)] := by rw [h]
structure RC where
  i : Nat
  o : Option Nat
  S : Ids
  A : AH
  V : Ids
  cs : List Value
theorem mkM_Packet {A : AH} {X1 X2 : Ids} {y : T_Packet} {v1 v2 : Value} (h1 : M_Int64S.R X1 A y.2.2.2.1 [v1]) (h2 : M_Int64S.R X2 A y.2.2.2.2 [v2]) (hd : ∀ id, X1 id → X2 id → False) : M_Packet.R (fun id => X1 id ∨ X2 id) A y [.bool y.1, .int .i64 y.2.1, .int .i64 y.2.2.1, v1, v2] := by
  have k3 : (Kn.mp M_Int64S M_Int64S).R (fun id => X1 id ∨ X2 id) A (y.2.2.2.1, y.2.2.2.2) ([v1] ++ [v2]) := mpR h1 h2 (fun _ p => .inl p) (fun _ p => .inr p) hd
  have k2 : (Kn.mp KI (Kn.mp M_Int64S M_Int64S)).R (fun id => X1 id ∨ X2 id) A (y.2.2.1, y.2.2.2.1, y.2.2.2.2) ([.int .i64 y.2.2.1] ++ ([v1] ++ [v2])) := mpR (X := None_) (show KI.R None_ A _ [.int .i64 y.2.2.1] from rfl) k3 (fun _ p => p.elim) (fun _ p => p) (fun _ p _ => p.elim)
  have k1 : (Kn.mp KI (Kn.mp KI (Kn.mp M_Int64S M_Int64S))).R (fun id => X1 id ∨ X2 id) A (y.2.1, y.2.2.1, y.2.2.2.1, y.2.2.2.2) ([.int .i64 y.2.1] ++ ([.int .i64 y.2.2.1] ++ ([v1] ++ [v2]))) := mpR (X := None_) (show KI.R None_ A _ [.int .i64 y.2.1] from rfl) k2 (fun _ p => p.elim) (fun _ p => p) (fun _ p _ => p.elim)
  exact mpR (X := None_) (show KB.R None_ A _ [.bool y.1] from rfl) k1 (fun _ p => p.elim) (fun _ p => p) (fun _ p _ => p.elim)
theorem Good.pick6 {S : Ids} {H0 H : AH} {a b c d e f g h : Var} {n : Nat} (G : Good S H0 [a, b, c, d, e, f, g, h] n H) : Good S H0 [a, b, c, d, e, h] n H := by
  refine G.sub (fun i => if i < 5 then i else i + 2) (fun i j h => by split at h <;> split at h <;> omega) (fun i u hi => ?_)
  match i, hi with
  | 0, hi => exact hi
  | 1, hi => exact hi
  | 2, hi => exact hi
  | 3, hi => exact hi
  | 4, hi => exact hi
  | 5, hi => exact hi
  | i + 6, hi => simp at hi
theorem T6d {a b c d e : Var} {i : Nat} {ty : TypeId} {cs cs' : List Value} (h : cs = cs') : ([a, b, c, d, e, (i, ⟨ty, true, cs⟩)] : List Var) = [a, b, c, d, e, (i, ⟨ty, true, cs'⟩)] := by rw [h]
theorem mkM_Seat {A : AH} {X1 X2 : Ids} {y : T_Seat} {v1 v2 v3 v4 : Value} (h1 : M_Purse.R X1 A y.1 [.int .i64 y.1.1, v1, v2]) (h2 : M_Purse.R X2 A y.2.1 [.int .i64 y.2.1.1, v3, v4]) (hd : ∀ id, X1 id → X2 id → False) : M_Seat.R (fun id => X1 id ∨ X2 id) A y [.int .i64 y.1.1, v1, v2, .int .i64 y.2.1.1, v3, v4, .int .i64 y.2.2] := by
  have k1 : (Kn.mp M_Purse KI).R X2 A (y.2.1, y.2.2) ([.int .i64 y.2.1.1, v3, v4] ++ [.int .i64 y.2.2]) := mpR (Y := None_) h2 (show KI.R None_ A _ [.int .i64 y.2.2] from rfl) (fun _ p => p) (fun _ p => p.elim) (fun _ _ p => p.elim)
  exact mpR h1 k1 (fun _ p => .inl p) (fun _ p => .inr p) hd
section
variable {S : Ids} {H0 : AH} {x : T_Ceremony} {sid gid bid nid : Nat} {aw : Option Addr} {cw : Nat}
theorem copied (hBs : ∀ y ∈ x.2.1, B_Seat y) (hBw : ∀ y ∈ x.2.2.2, B_Packet y) (hl1 : x.2.1.length ≤ 7) (hp1 : 0 < x.2.1.length) (hp2 : 0 < x.2.2.1.2.1.length) (hBg : ∀ g ∈ x.2.2.1.2.1, B_Int64S g) (hl2 : x.2.2.1.2.1.length ≤ 7) (hl3 : x.2.2.1.2.2.1.length ≤ 7) (hl4 : x.2.2.1.2.2.2.length ≤ 7) (hl5 : x.2.2.2.length ≤ 12)
    (hSe : K_Seat.Sl S H0 (.slice (some ⟨sid, 0, some 7⟩) x.2.1.length x.2.1.length) x.2.1) (hGo : KI.sl.Sl S H0 (.slice (some ⟨gid, 0, some 1⟩) x.2.2.1.2.1.length x.2.2.1.2.1.length) x.2.2.1.2.1) (hHa : S bid ∧ H0.m bid = some ⟨4, true, x.2.2.1.2.2.1.map Value.bool⟩) (hNa : S nid ∧ H0.m nid = some ⟨4, true, x.2.2.1.2.2.2.map Value.bool⟩) (hWi : K_Packet.Sl S H0 (.slice aw x.2.2.2.length cw) x.2.2.2) :
    SpecM Tryz.prog S H0 53 [.agg #[.int .i64 x.1, .slice (some ⟨sid, 0, some 7⟩) x.2.1.length x.2.1.length, .int .i64 x.2.2.1.1, .slice (some ⟨gid, 0, some 1⟩) x.2.2.1.2.1.length x.2.2.1.2.1.length, .slice (some ⟨bid, 0, some 1⟩) x.2.2.1.2.2.1.length x.2.2.1.2.2.1.length, .slice (some ⟨nid, 0, some 1⟩) x.2.2.1.2.2.2.length x.2.2.1.2.2.2.length, .slice aw x.2.2.2.length cw]] (fun n v H1 => ∃ cs : List Value, v = .agg cs.toArray ∧ M_Ceremony.R (New n H1.n) H1 x cs) := by
  obtain ⟨ep, ss, ⟨oe, got, has, named⟩, wi⟩ := x
  simp only at hBs hBw hBg hp1 hp2 hl1 hl2 hl3 hl4 hl5 hSe hGo hHa hNa hWi
  refine SpecM.of1 Tryz.func53 rfl (by kernel_rfl) rfl (fun H _ => ?_)
  have hSe0 := hSe.up (S' := Low H.n) (H' := H)
  have hGo0 := hGo.up (S' := Low H.n) (H' := H)
  have hWi0 := hWi.up (S' := Low H.n) (H' := H)
  refine KW.build rfl rfl rfl rfl rfl (built_Cer1 _) ?_
  refine KW.lpM rfl rfl (fun s : RC => [(1, .pointer (some ⟨H.n, 0, some 0⟩)), (2, .pointer (some ⟨H.n + 1, 0, some 1⟩)), (3, .pointer (some ⟨H.n + 2, 0, some 2⟩)), (14, .slice (some ⟨sid, 0, some 7⟩) ss.length ss.length), (15, .int .i64 ss.length), (16, .int .i64 s.i)]) (fun s => s.S) (fun s => s.A) (fun s => [(H.n, ⟨61, true, [.int .i64 ep, .slice (some ⟨sid, 0, some 7⟩) ss.length ss.length, .int .i64 oe, .slice (some ⟨gid, 0, some 1⟩) got.length got.length, .slice (some ⟨bid, 0, some 1⟩) has.length has.length, .slice (some ⟨nid, 0, some 1⟩) named.length named.length, .slice aw wi.length cw]⟩), (H.n + 1, ⟨61, true, [.int .i64 0, .slice none 0 0, .int .i64 0, .slice none 0 0, .slice none 0 0, .slice none 0 0, .slice none 0 0]⟩), (H.n + 2, ⟨61, true, [.int .i64 ep, (match s.o with | none => .slice none 0 0 | some o => .slice (some ⟨o, 0, some 7⟩) s.i s.i), .int .i64 0, .slice none 0 0, .slice none 0 0, .slice none 0 0, .slice none 0 0]⟩)] ++ (match s.o with | none => [] | some o => [(o, ⟨101, true, s.cs⟩)])) (fun s => AppI M_Seat ss H.n s.i s.S s.A s.V s.cs ∧ St (Low H.n) H s.S s.A ∧ (s.o = none ↔ s.i = 0)) (fun s => ss.length - s.i) (⟨0, none, Low H.n, H, fun _ => False, []⟩) (⟨AppI.zero, fun id p => ⟨p, rfl⟩, by simp⟩) ⟨rfl, rfl, rfl, rfl, rfl, rfl, trivial⟩ rfl rfl (rfl) (fun s hi bE n => ?_)
  obtain ⟨i, ob, S2, A2, V, cs⟩ := s
  obtain ⟨i1, i2, i3⟩ := hi
  simp only at i1 i2 i3
  have ile := i1.le
  have icl : cs.length = i * 7 := i1.len
  refine KW.fact (p := H.n + 2 < n ∧ ∀ id, S2 id → id < n) (fun H1 g => ⟨(g.vars 2 _ rfl).2.1, fun id p => by have := (g.froz id p).1; have := g.n_; omega⟩) (fun hf => ?_)
  refine KW.cnd rfl rfl (fun k1 => ?gin) (fun k1 => ?gout)
  case gin =>
    have k1 : (i : Int) < (ss.length : Int) := k1
    have hSe2 : K_Seat.Sl S2 A2 _ ss := sl_mk hSe0 i2
    cases ob with
    | none =>
      obtain rfl := i3.1 rfl
      obtain rfl : cs = [] := List.eq_nil_of_length_eq_zero (by omega)
      simp only
      refine KW.getS (td := .struct #[]) hSe2 rfl rfl rfl rfl rfl rfl rfl rfl rfl rfl rfl rfl rfl rfl rfl rfl rfl (by omega) (k1) (fun y cy hy hsy => ?_)
      have hy : ss[0]? = some y := hy
      obtain ⟨f1, g1, f2, g2, f3, g3, f4, g4, rfl, hp1, hp2⟩ := splitk_Seat hsy
      have hBy := hBs y (List.mem_of_getElem? hy)
      refine KW.callN1 rfl rfl rfl rfl rfl (copyPurse hBy.1 (On.R hp1)) (fun v G1 S3 m3 _ _ hv => ?_)
      obtain ⟨w1, rfl, q1⟩ := hv
      obtain ⟨b1, e1, b2, e2, rfl⟩ := formM_Purse q1
      refine KW.callN1 rfl rfl rfl rfl rfl (copyPurse hBy.2.1 (On.R hp2)) (fun v G2 S4 m4 _ _ hv => ?_)
      obtain ⟨w2, rfl, q2⟩ := hv
      obtain ⟨b3, e3, b4, e4, rfl⟩ := formM_Purse q2
      refine KW.build rfl rfl rfl rfl rfl (built_SeatI _ _ _ _ _ _ _) ?_
      have o1 := (inferInstance : On (New (n + 1) G1.n) G1 S4 G2).st
      have o2 := (inferInstance : On (New G1.n G2.n) G2 S4 G2).st
      have o24 := (inferInstance : On S2 A2 S4 G2).st
      have q1' : M_Purse.R (New (n + 1) G1.n) G2 y.1 _ := M_Purse.same (fun id p => (o1 id p).2) q1
      have qS := mkM_Seat (y := y) q1' q2 (fun id p r => by have := p.2; have := r.1; omega)
      have hX : ∀ id, (New (n + 1) G1.n id ∨ New G1.n G2.n id) → S4 id ∧ H.n ≤ id ∧ ¬ V id := fun id p => by
        refine ⟨p.elim (fun p => (o1 id p).1) (fun p => (o2 id p).1), ?_, fun v => ?_⟩
        · rcases p with p | p <;> (have := p.1; omega)
        · have := hf.2 id (i1.sub id v).1
          rcases p with p | p <;> (have := p.1; omega)
      have A1 := (i1.up (S' := S4) (A' := G2) (fun id p => o24 id p)).next hy rfl hX qS
      have st4 : St (Low H.n) H S4 G2 := i2.trans o24
      refine KW.litS1 rfl rfl rfl rfl rfl rfl rfl rfl rfl rfl rfl rfl ?_
      refine KW.appNS rfl rfl rfl rfl rfl rfl rfl (by decide) rfl (fun H1 g => acells_seg (g.blk (j := 4) rfl).1 (by show 0 + 1 * 7 ≤ 7; decide)) rfl (by decide) (by decide) (by decide) ?_
      refine KW.nxt rfl rfl (fun H' g => ⟨⟨1, some (G2.n + 1), S4, G2, _, _⟩, ⟨A1, st4, by simp⟩, by first | omega | (simp only; omega), ⟨rfl, rfl, rfl, rfl, rfl, congrArg (Value.int .i64) (inc64 (by omega)), trivial⟩, g.pick4⟩)
    | some o =>
      simp only
      refine KW.getS (td := .struct #[]) hSe2 rfl rfl rfl rfl rfl rfl rfl rfl rfl rfl rfl rfl rfl rfl rfl rfl rfl (by omega) (k1) (fun y cy hy hsy => ?_)
      have hy : ss[i]? = some y := hy
      obtain ⟨f1, g1, f2, g2, f3, g3, f4, g4, rfl, hp1, hp2⟩ := splitk_Seat hsy
      have hBy := hBs y (List.mem_of_getElem? hy)
      refine KW.callN1 rfl rfl rfl rfl rfl (copyPurse hBy.1 (On.R hp1)) (fun v G1 S3 m3 _ _ hv => ?_)
      obtain ⟨w1, rfl, q1⟩ := hv
      obtain ⟨b1, e1, b2, e2, rfl⟩ := formM_Purse q1
      refine KW.callN1 rfl rfl rfl rfl rfl (copyPurse hBy.2.1 (On.R hp2)) (fun v G2 S4 m4 _ _ hv => ?_)
      obtain ⟨w2, rfl, q2⟩ := hv
      obtain ⟨b3, e3, b4, e4, rfl⟩ := formM_Purse q2
      refine KW.build rfl rfl rfl rfl rfl (built_SeatI _ _ _ _ _ _ _) ?_
      have o1 := (inferInstance : On (New (n + 1) G1.n) G1 S4 G2).st
      have o2 := (inferInstance : On (New G1.n G2.n) G2 S4 G2).st
      have o24 := (inferInstance : On S2 A2 S4 G2).st
      have q1' : M_Purse.R (New (n + 1) G1.n) G2 y.1 _ := M_Purse.same (fun id p => (o1 id p).2) q1
      have qS := mkM_Seat (y := y) q1' q2 (fun id p r => by have := p.2; have := r.1; omega)
      have hX : ∀ id, (New (n + 1) G1.n id ∨ New G1.n G2.n id) → S4 id ∧ H.n ≤ id ∧ ¬ V id := fun id p => by
        refine ⟨p.elim (fun p => (o1 id p).1) (fun p => (o2 id p).1), ?_, fun v => ?_⟩
        · rcases p with p | p <;> (have := p.1; omega)
        · have := hf.2 id (i1.sub id v).1
          rcases p with p | p <;> (have := p.1; omega)
      have A1 := (i1.up (S' := S4) (A' := G2) (fun id p => o24 id p)).next hy rfl hX qS
      have st4 : St (Low H.n) H S4 G2 := i2.trans o24
      refine KW.litS1 rfl rfl rfl rfl rfl rfl rfl rfl rfl rfl rfl rfl ?_
      refine KW.appTS (m := 1) (ys := [.int .i64 y.1.1, .slice b1 y.1.2.1.length e1, .slice b2 y.1.2.2.length e2, .int .i64 y.2.1.1, .slice b3 y.2.1.2.1.length e3, .slice b4 y.2.1.2.2.length e4, .int .i64 y.2.2]) 3 rfl rfl rfl rfl rfl rfl rfl rfl (by decide) rfl (fun H1 g => acells_seg (g.blk (j := 5) rfl).1 (by show 0 + 1 * 7 ≤ 7; decide)) (by show 0 + i * 7 ≤ cs.length; omega) rfl (by decide) (by show (i + 1) * 120 ≤ _; omega) (by show i + 1 ≤ _; omega) ?_
      have e9 : (cs.drop 0).take (i * 7) ++ [.int .i64 y.1.1, .slice b1 y.1.2.1.length e1, .slice b2 y.1.2.2.length e2, .int .i64 y.2.1.1, .slice b3 y.2.1.2.1.length e3, .slice b4 y.2.1.2.2.length e4, .int .i64 y.2.2] = cs ++ [.int .i64 y.1.1, .slice b1 y.1.2.1.length e1, .slice b2 y.1.2.2.length e2, .int .i64 y.2.1.1, .slice b3 y.2.1.2.1.length e3, .slice b4 y.2.1.2.2.length e4, .int .i64 y.2.2] := by rw [drop0_take icl]
      refine KW.nxt rfl rfl (fun H' g => ⟨⟨i + 1, some (G2.n + 1), S4, G2, _, _⟩, ⟨A1, st4, by simp⟩, by first | omega | (simp only; omega), ⟨rfl, rfl, rfl, rfl, rfl, congrArg (Value.int .i64) (inc64 (by omega)), trivial⟩, (g.take 4).castT (show ([_, _, _, (G2.n + 1, ⟨_, true, _⟩)] : List Var) = [_, _, _, (G2.n + 1, ⟨_, true, _⟩)] from T4c e9)⟩)
  have k1 : ¬ (i : Int) < (ss.length : Int) := k1
  obtain rfl : i = ss.length := by omega
  cases ob with
  | none => have := i3.1 rfl; omega
  | some o =>
  simp only
  have hHa2 := i2 bid ((inferInstance : On S H0 (Low H.n) H).st bid hHa.1).1
  have hNa2 := i2 nid ((inferInstance : On S H0 (Low H.n) H).st nid hNa.1).1
  have eHa : A2.m bid = _ := hHa2.2.trans (((inferInstance : On S H0 (Low H.n) H).st bid hHa.1).2.trans hHa.2)
  have eNa : A2.m nid = _ := hNa2.2.trans (((inferInstance : On S H0 (Low H.n) H).st nid hNa.1).2.trans hNa.2)
  refine KW.cnt (fun nA hnA => ?_)
  refine KW.callN1 rfl rfl rfl rfl rfl (cloneFlag (by omega) hHa2.1 eHa) (fun v B1 SB1 mB1 _ _ hv => ?_)
  obtain ⟨bo, rfl, hb1, hb2⟩ := hv
  have ob1 := (inferInstance : On S2 A2 SB1 B1).st
  refine KW.callN1 rfl rfl rfl rfl rfl (cloneFlag (by omega) (ob1 nid hNa2.1).1 ((ob1 nid hNa2.1).2.trans eNa)) (fun v B2 SB2 mB2 _ _ hv => ?_)
  obtain ⟨no, rfl, hc1, hc2⟩ := hv
  refine KW.build rfl rfl rfl rfl rfl (built_OpenerH _ _ _ _ _ _ _) ?_
  have o12 := (inferInstance : On S2 A2 SB2 B2).st
  have st2 : St (Low H.n) H SB2 B2 := i2.trans o12
  refine KW.lpM rfl rfl (fun s : RC => [(1, .pointer (some ⟨H.n, 0, some 0⟩)), (2, .pointer (some ⟨H.n + 1, 0, some 1⟩)), (3, .pointer (some ⟨H.n + 2, 0, some 2⟩)), (50, .slice (some ⟨gid, 0, some 1⟩) got.length got.length), (51, .int .i64 got.length), (52, .int .i64 s.i)]) (fun s => s.S) (fun s => s.A) (fun s => [(H.n, ⟨61, true, [.int .i64 ep, .slice (some ⟨sid, 0, some 7⟩) ss.length ss.length, .int .i64 oe, .slice (some ⟨gid, 0, some 1⟩) got.length got.length, .slice (some ⟨bid, 0, some 1⟩) has.length has.length, .slice (some ⟨nid, 0, some 1⟩) named.length named.length, .slice aw wi.length cw]⟩), (H.n + 1, ⟨61, true, [.int .i64 0, .slice none 0 0, .int .i64 0, .slice none 0 0, .slice none 0 0, .slice none 0 0, .slice none 0 0]⟩), (H.n + 2, ⟨61, true, [.int .i64 ep, .slice (some ⟨o, 0, some 7⟩) ss.length ss.length, .int .i64 oe, (match s.o with | none => .slice none 0 0 | some o => .slice (some ⟨o, 0, some 1⟩) s.i s.i), .slice (some ⟨bo, 0, some 1⟩) has.length has.length, .slice (some ⟨no, 0, some 1⟩) named.length named.length, .slice none 0 0]⟩), (o, ⟨101, true, cs⟩)] ++ (match s.o with | none => [] | some o => [(o, ⟨22, true, s.cs⟩)])) (fun s => AppI KI.ml got B2.n s.i s.S s.A s.V s.cs ∧ St SB2 B2 s.S s.A ∧ (s.o = none ↔ s.i = 0)) (fun s => got.length - s.i) (⟨0, none, SB2, B2, fun _ => False, []⟩) (⟨AppI.zero, fun id p => ⟨p, rfl⟩, by simp⟩) ⟨rfl, rfl, rfl, rfl, rfl, rfl, trivial⟩ rfl rfl (rfl) (fun s hi bE n => ?_)
  obtain ⟨j, ob2, S5, A5, V5, cs5⟩ := s
  obtain ⟨j1, j2, j3⟩ := hi
  simp only at j1 j2 j3
  have jle := j1.le
  have jcl : cs5.length = j * 1 := j1.len
  have st5 : St (Low H.n) H S5 A5 := st2.trans j2
  refine KW.fact (p := B2.n ≤ n ∧ ∀ id, S5 id → id < n) (fun H1 g => ⟨?_, fun id p => by have := (g.froz id p).1; have := g.n_; omega⟩) (fun hf2 => ?_)
  · have h1 := hc1.1
    have h2 := hc1.2
    have hS := ((inferInstance : On (New B1.n B2.n) B2 SB2 B2).st (B2.n - 1) ⟨by omega, by omega⟩).1
    have h3 := (g.froz _ (j2 _ hS).1).1
    have h4 := g.n_
    omega
  refine KW.cnd rfl rfl (fun k5 => ?gi2) (fun k5 => ?go2)
  case gi2 =>
    have k5 : (j : Int) < (got.length : Int) := k5
    have hGo2 : KI.sl.Sl S5 A5 _ got := sl_mk hGo0 st5
    cases ob2 with
    | none =>
      obtain rfl := j3.1 rfl
      obtain rfl : cs5 = [] := List.eq_nil_of_length_eq_zero (by omega)
      simp only
      refine KW.getL hGo2 rfl rfl rfl rfl rfl rfl rfl rfl rfl rfl rfl rfl rfl rfl rfl rfl (by omega) (k5) (fun y ya yc hy hsy => ?_)
      have hy : got[0]? = some y := hy
      have hBy := hBg y (List.mem_of_getElem? hy)
      refine KW.callN1 rfl rfl rfl rfl rfl (cloneM hBy (sl1' hsy)) (fun v G1 S6 m6 _ _ hv => ?_)
      obtain ⟨b1, e1, rfl, q1⟩ := hv
      refine KW.lit rfl rfl rfl rfl rfl rfl rfl rfl rfl rfl [.slice b1 y.length e1] rfl rfl (fun v hv => by simp at hv; subst hv; rfl) rfl ?_
      have o1 := (inferInstance : On (New n G1.n) G1 S6 G1).st
      have o56 := (inferInstance : On S5 A5 S6 G1).st
      have hX : ∀ id, New n G1.n id → S6 id ∧ B2.n ≤ id ∧ ¬ V5 id := fun id p => by
        refine ⟨(o1 id p).1, ?_, fun v => ?_⟩
        · have := p.1; omega
        · have := hf2.2 id (j1.sub id v).1
          have := p.1; omega
      have A2' := (j1.up (S' := S6) (A' := G1) (fun id p => o56 id p)).next (ys := [.slice b1 y.length e1]) hy rfl hX q1
      have st6 : St SB2 B2 S6 G1 := j2.trans o56
      refine KW.appNS (m := 1) (ys := [.slice b1 y.length e1]) rfl rfl rfl rfl rfl rfl rfl (by decide) rfl (fun H1 g => acells_seg (g.blk (j := 4) rfl).1 (by show 0 + 1 * 1 ≤ 1; decide)) rfl (by decide) (by show 1 * 24 ≤ _; omega) (by omega) ?_
      refine KW.nxt rfl rfl (fun H' g => ⟨⟨1, some (G1.n + 1), S6, G1, _, _⟩, ⟨A2', st6, by simp⟩, by first | omega | (simp only; omega), ⟨rfl, rfl, rfl, rfl, rfl, congrArg (Value.int .i64) (inc64 (by omega)), trivial⟩, g.pick5b⟩)
    | some o5 =>
      simp only
      refine KW.getL hGo2 rfl rfl rfl rfl rfl rfl rfl rfl rfl rfl rfl rfl rfl rfl rfl rfl (by omega) (k5) (fun y ya yc hy hsy => ?_)
      have hy : got[j]? = some y := hy
      have hBy := hBg y (List.mem_of_getElem? hy)
      refine KW.callN1 rfl rfl rfl rfl rfl (cloneM hBy (sl1' hsy)) (fun v G1 S6 m6 _ _ hv => ?_)
      obtain ⟨b1, e1, rfl, q1⟩ := hv
      refine KW.lit rfl rfl rfl rfl rfl rfl rfl rfl rfl rfl [.slice b1 y.length e1] rfl rfl (fun v hv => by simp at hv; subst hv; rfl) rfl ?_
      have o1 := (inferInstance : On (New n G1.n) G1 S6 G1).st
      have o56 := (inferInstance : On S5 A5 S6 G1).st
      have hX : ∀ id, New n G1.n id → S6 id ∧ B2.n ≤ id ∧ ¬ V5 id := fun id p => by
        refine ⟨(o1 id p).1, ?_, fun v => ?_⟩
        · have := p.1; omega
        · have := hf2.2 id (j1.sub id v).1
          have := p.1; omega
      have A2' := (j1.up (S' := S6) (A' := G1) (fun id p => o56 id p)).next (ys := [.slice b1 y.length e1]) hy rfl hX q1
      have st6 : St SB2 B2 S6 G1 := j2.trans o56
      refine KW.appTS (m := 1) (ys := [.slice b1 y.length e1]) 4 rfl rfl rfl rfl rfl rfl rfl rfl (by decide) rfl (fun H1 g => acells_seg (g.blk (j := 5) rfl).1 (by show 0 + 1 * 1 ≤ 1; decide)) (by show 0 + j * 1 ≤ cs5.length; omega) rfl (by decide) (by show (j + 1) * 24 ≤ _; omega) (by show j + 1 ≤ _; omega) ?_
      have e9 : (cs5.drop 0).take (j * 1) ++ [.slice b1 y.length e1] = cs5 ++ [.slice b1 y.length e1] := by rw [drop0_take jcl]
      refine KW.nxt rfl rfl (fun H' g => ⟨⟨j + 1, some (G1.n + 1), S6, G1, _, _⟩, ⟨A2', st6, by simp⟩, by first | omega | (simp only; omega), ⟨rfl, rfl, rfl, rfl, rfl, congrArg (Value.int .i64) (inc64 (by omega)), trivial⟩, (g.take 5).castT (show ([_, _, _, _, (G1.n + 1, ⟨_, true, _⟩)] : List Var) = [_, _, _, _, (G1.n + 1, ⟨_, true, _⟩)] from T5d e9)⟩)
  have k5 : ¬ (j : Int) < (got.length : Int) := k5
  obtain rfl : j = got.length := by omega
  cases ob2 with
  | none => have := j3.1 rfl; omega
  | some o5 =>
  simp only
  refine KW.lpM rfl rfl (fun s : RC => [(2, .pointer (some ⟨H.n + 1, 0, some 1⟩)), (3, .pointer (some ⟨H.n + 2, 0, some 2⟩)), (67, .slice aw wi.length cw), (68, .int .i64 wi.length), (69, .int .i64 s.i)]) (fun s => s.S) (fun s => s.A) (fun s => [(H.n, ⟨61, true, [.int .i64 ep, .slice (some ⟨sid, 0, some 7⟩) ss.length ss.length, .int .i64 oe, .slice (some ⟨gid, 0, some 1⟩) got.length got.length, .slice (some ⟨bid, 0, some 1⟩) has.length has.length, .slice (some ⟨nid, 0, some 1⟩) named.length named.length, .slice aw wi.length cw]⟩), (H.n + 1, ⟨61, true, [.int .i64 0, .slice none 0 0, .int .i64 0, .slice none 0 0, .slice none 0 0, .slice none 0 0, .slice none 0 0]⟩), (H.n + 2, ⟨61, true, [.int .i64 ep, .slice (some ⟨o, 0, some 7⟩) ss.length ss.length, .int .i64 oe, .slice (some ⟨o5, 0, some 1⟩) got.length got.length, .slice (some ⟨bo, 0, some 1⟩) has.length has.length, .slice (some ⟨no, 0, some 1⟩) named.length named.length, (match s.o with | none => .slice none 0 0 | some o => .slice (some ⟨o, 0, some 5⟩) s.i s.i)]⟩), (o, ⟨101, true, cs⟩), (o5, ⟨22, true, cs5⟩)] ++ (match s.o with | none => [] | some o => [(o, ⟨126, true, s.cs⟩)])) (fun s => AppI M_Packet wi H.n s.i s.S s.A s.V s.cs ∧ St S5 A5 s.S s.A ∧ (s.o = none ↔ s.i = 0) ∧ ∀ id, s.V id → ¬ S5 id) (fun s => wi.length - s.i) (⟨0, none, S5, A5, fun _ => False, []⟩) (⟨AppI.zero, fun id p => ⟨p, rfl⟩, by simp, fun _ p => p.elim⟩) ⟨rfl, rfl, rfl, rfl, rfl, trivial⟩ rfl rfl (rfl) (fun s hi bE n => ?_)
  obtain ⟨k, ob7, S7, A7, V7, cs7⟩ := s
  obtain ⟨l1, l2, l3, l4⟩ := hi
  simp only at l1 l2 l3 l4
  have kle := l1.le
  have kcl : cs7.length = k * 5 := l1.len
  have st7 : St (Low H.n) H S7 A7 := st5.trans l2
  refine KW.fact (p := H.n + 2 < n ∧ ∀ id, S7 id → id < n) (fun H1 g => ⟨(g.vars 2 _ rfl).2.1, fun id p => by have := (g.froz id p).1; have := g.n_; omega⟩) (fun hf3 => ?_)
  refine KW.cnd rfl rfl (fun k6 => ?gi3) (fun k6 => ?go3)
  case gi3 =>
    have k6 : (k : Int) < (wi.length : Int) := k6
    have hWi2 : K_Packet.Sl S7 A7 _ wi := sl_mk hWi0 st7
    cases ob7 with
    | none =>
      obtain rfl := l3.1 rfl
      obtain rfl : cs7 = [] := List.eq_nil_of_length_eq_zero (by omega)
      simp only
      refine KW.getS (td := .struct #[]) hWi2 rfl rfl rfl rfl rfl rfl rfl rfl rfl rfl rfl rfl rfl rfl rfl rfl rfl (by omega) (k6) (fun y cy hy hsy => ?_)
      have hy : wi[0]? = some y := hy
      obtain ⟨f1, g1, f2, g2, rfl, hp3, hp4⟩ := splitk_Packet hsy
      have hBy := hBw y (List.mem_of_getElem? hy)
      refine KW.callN1 rfl rfl rfl rfl rfl (cloneM hBy.2.2.2.1 (On.R hp3)) (fun v G1 S8 m8 _ _ hv => ?_)
      obtain ⟨b1, e1, rfl, q1⟩ := hv
      refine KW.callN1 rfl rfl rfl rfl rfl (cloneM hBy.2.2.2.2 (On.R hp4)) (fun v G2 S9 m9 _ _ hv => ?_)
      obtain ⟨b2, e2, rfl, q2⟩ := hv
      have p1 := (inferInstance : On (New (n + 1) G1.n) G1 S9 G2).st
      have p2 := (inferInstance : On (New G1.n G2.n) G2 S9 G2).st
      have p79 := (inferInstance : On S7 A7 S9 G2).st
      have q1' : M_Int64S.R (New (n + 1) G1.n) G2 y.2.2.2.1 _ := M_Int64S.same (fun id p => (p1 id p).2) q1
      have qS := mkM_Packet (y := y) q1' q2 (fun id p r => by have := p.2; have := r.1; omega)
      have big : ∀ id, (New (n + 1) G1.n id ∨ New G1.n G2.n id) → n ≤ id := fun id p => by rcases p with p | p <;> (have := p.1; omega)
      have hX : ∀ id, (New (n + 1) G1.n id ∨ New G1.n G2.n id) → S9 id ∧ H.n ≤ id ∧ ¬ V7 id := fun id p => by
        have hb := big id p
        refine ⟨p.elim (fun p => (p1 id p).1) (fun p => (p2 id p).1), by omega, fun v => ?_⟩
        have := hf3.2 id (l1.sub id v).1
        omega
      have A3 := (l1.up (S' := S9) (A' := G2) (fun id p => p79 id p)).next hy rfl hX qS
      have st9 : St S5 A5 S9 G2 := l2.trans p79
      have l4' : ∀ id, (V7 id ∨ (New (n + 1) G1.n id ∨ New G1.n G2.n id)) → ¬ S5 id := fun id p q => by
        rcases p with p | p
        · exact l4 id p q
        · have := big id p
          have := hf3.2 id (l2 id q).1
          omega
      refine KW.litS1 rfl rfl rfl rfl rfl rfl rfl rfl rfl rfl rfl rfl ?_
      refine KW.appNS rfl rfl rfl rfl rfl rfl rfl (by decide) rfl (fun H1 g => acells_seg (g.blk (j := 6) rfl).1 (by show 0 + 1 * 5 ≤ 5; decide)) rfl (by decide) (by decide) (by decide) ?_
      refine KW.nxt rfl rfl (fun H' g => ⟨⟨1, some (G2.n + 1), S9, G2, _, _⟩, ⟨A3, st9, by simp, l4'⟩, by first | omega | (simp only; omega), ⟨rfl, rfl, rfl, rfl, congrArg (Value.int .i64) (inc64 (by omega)), trivial⟩, g.pick6⟩)
    | some o7 =>
      simp only
      refine KW.getS (td := .struct #[]) hWi2 rfl rfl rfl rfl rfl rfl rfl rfl rfl rfl rfl rfl rfl rfl rfl rfl rfl (by omega) (k6) (fun y cy hy hsy => ?_)
      have hy : wi[k]? = some y := hy
      obtain ⟨f1, g1, f2, g2, rfl, hp3, hp4⟩ := splitk_Packet hsy
      have hBy := hBw y (List.mem_of_getElem? hy)
      refine KW.callN1 rfl rfl rfl rfl rfl (cloneM hBy.2.2.2.1 (On.R hp3)) (fun v G1 S8 m8 _ _ hv => ?_)
      obtain ⟨b1, e1, rfl, q1⟩ := hv
      refine KW.callN1 rfl rfl rfl rfl rfl (cloneM hBy.2.2.2.2 (On.R hp4)) (fun v G2 S9 m9 _ _ hv => ?_)
      obtain ⟨b2, e2, rfl, q2⟩ := hv
      have p1 := (inferInstance : On (New (n + 1) G1.n) G1 S9 G2).st
      have p2 := (inferInstance : On (New G1.n G2.n) G2 S9 G2).st
      have p79 := (inferInstance : On S7 A7 S9 G2).st
      have q1' : M_Int64S.R (New (n + 1) G1.n) G2 y.2.2.2.1 _ := M_Int64S.same (fun id p => (p1 id p).2) q1
      have qS := mkM_Packet (y := y) q1' q2 (fun id p r => by have := p.2; have := r.1; omega)
      have big : ∀ id, (New (n + 1) G1.n id ∨ New G1.n G2.n id) → n ≤ id := fun id p => by rcases p with p | p <;> (have := p.1; omega)
      have hX : ∀ id, (New (n + 1) G1.n id ∨ New G1.n G2.n id) → S9 id ∧ H.n ≤ id ∧ ¬ V7 id := fun id p => by
        have hb := big id p
        refine ⟨p.elim (fun p => (p1 id p).1) (fun p => (p2 id p).1), by omega, fun v => ?_⟩
        have := hf3.2 id (l1.sub id v).1
        omega
      have A3 := (l1.up (S' := S9) (A' := G2) (fun id p => p79 id p)).next hy rfl hX qS
      have st9 : St S5 A5 S9 G2 := l2.trans p79
      have l4' : ∀ id, (V7 id ∨ (New (n + 1) G1.n id ∨ New G1.n G2.n id)) → ¬ S5 id := fun id p q => by
        rcases p with p | p
        · exact l4 id p q
        · have := big id p
          have := hf3.2 id (l2 id q).1
          omega
      refine KW.litS1 rfl rfl rfl rfl rfl rfl rfl rfl rfl rfl rfl rfl ?_
      refine KW.appTS (m := 1) (ys := [.bool y.1, .int .i64 y.2.1, .int .i64 y.2.2.1, .slice b1 y.2.2.2.1.length e1, .slice b2 y.2.2.2.2.length e2]) 5 rfl rfl rfl rfl rfl rfl rfl rfl (by decide) rfl (fun H1 g => acells_seg (g.blk (j := 7) rfl).1 (by show 0 + 1 * 5 ≤ 5; decide)) (by show 0 + k * 5 ≤ cs7.length; omega) rfl (by decide) (by show (k + 1) * 72 ≤ _; omega) (by show k + 1 ≤ _; omega) ?_
      have e9 : (cs7.drop 0).take (k * 5) ++ [.bool y.1, .int .i64 y.2.1, .int .i64 y.2.2.1, .slice b1 y.2.2.2.1.length e1, .slice b2 y.2.2.2.2.length e2] = cs7 ++ [.bool y.1, .int .i64 y.2.1, .int .i64 y.2.2.1, .slice b1 y.2.2.2.1.length e1, .slice b2 y.2.2.2.2.length e2] := by rw [drop0_take kcl]
      refine KW.nxt rfl rfl (fun H' g => ⟨⟨k + 1, some (G2.n + 1), S9, G2, _, _⟩, ⟨A3, st9, by simp, l4'⟩, by first | omega | (simp only; omega), ⟨rfl, rfl, rfl, rfl, congrArg (Value.int .i64) (inc64 (by omega)), trivial⟩, (g.take 6).castT (show ([_, _, _, _, _, (G2.n + 1, ⟨_, true, _⟩)] : List Var) = [_, _, _, _, _, (G2.n + 1, ⟨_, true, _⟩)] from T6d e9)⟩)
  have k6 : ¬ (k : Int) < (wi.length : Int) := k6
  obtain rfl : k = wi.length := by omega
  have hVlt : ∀ id, V id → id < nA := fun id p => by have := hf.2 id (i1.sub id p).1; omega
  have c7 : ∀ id, S2 id → S7 id ∧ A7.m id = A2.m id := fun id p => (o12.trans (j2.trans l2)) id p
  have cB : ∀ id, SB2 id → S7 id ∧ A7.m id = B2.m id := fun id p => (j2.trans l2) id p
  have oB := (inferInstance : On (New nA B1.n) B1 SB2 B2).st bo hb1
  have oC := (inferInstance : On (New B1.n B2.n) B2 SB2 B2).st no hc1
  cases ob7 with
  | none =>
    have hw0 := l3.1 rfl
    simp only
    refine KW.retM rfl rfl rfl rfl (fun id hid => st7 id hid) (fun H1 g => ⟨_, rfl, ?_⟩)
    have gv3 := g.vars 3 _ rfl
    have gv4 := g.vars 4 _ rfl
    have d34 : o ≠ o5 := fun e => by have := g.dist 3 4 _ _ rfl rfl e; omega
    have hn := g.n_
    have V2 : ∀ id, V id → S7 id ∧ H1.m id = A2.m id := fun id p => ⟨(c7 id (i1.sub id p).1).1, (g.froz id (c7 id (i1.sub id p).1).1).2.trans (c7 id (i1.sub id p).1).2⟩
    have V52 : ∀ id, V5 id → S7 id ∧ H1.m id = A5.m id := fun id p => ⟨(l2 id (j1.sub id p).1).1, (g.froz id (l2 id (j1.sub id p).1).1).2.trans (l2 id (j1.sub id p).1).2⟩
    have r1 : M_SeatS.R (fun id => id = o ∨ V id) H1 ss _ := ml1' (i1.ml rfl (.inl rfl) (fun p => gv3.2.2 (V2 o p).1) (g.blk (j := 3) rfl).1 (fun id p => ⟨.inr p, (V2 id p).2⟩) (Nat.le_refl _))
    have r2 : M_Int64SS.R (fun id => id = o5 ∨ V5 id) H1 got _ := ml1' (j1.ml rfl (.inl rfl) (fun p => gv4.2.2 (V52 o5 p).1) (g.blk (j := 4) rfl).1 (fun id p => ⟨.inr p, (V52 id p).2⟩) (Nat.le_refl _))
    have hwn : wi = [] := List.eq_nil_of_length_eq_zero hw0
    subst hwn
    have r5 : M_PacketS.R None_ H1 [] [.slice none 0 0] := ml1' (.inl ⟨rfl, _, _, rfl, fun _ => rfl⟩)
    have r3 : M_FlagS.R (fun id => id = bo) H1 has _ := bool_ml rfl (((g.froz bo (cB bo oB.1).1).2.trans (cB bo oB.1).2).trans (oB.2.trans hb2)) (Nat.le_refl _)
    have r4 : M_FlagS.R (fun id => id = no) H1 named _ := bool_ml rfl (((g.froz no (cB no oC.1).1).2.trans (cB no oC.1).2).trans (oC.2.trans hc2)) (Nat.le_refl _)
    have eb := hb1.1
    have eb2 := hb1.2
    have ec := hc1.1
    have ec2 := hc1.2
    have k34 : (Kn.mp M_FlagS M_FlagS).R (fun id => id = bo ∨ id = no) H1 (has, named) _ := mpR r3 r4 (fun _ p => .inl p) (fun _ p => .inr p) (fun id p q => by have e1 : id = bo := p; have e2 : id = no := q; omega)
    have k234 : (Kn.mp M_Int64SS (Kn.mp M_FlagS M_FlagS)).R (fun id => (id = o5 ∨ V5 id) ∨ (id = bo ∨ id = no)) H1 (got, has, named) _ := mpR r2 k34 (fun _ p => .inl p) (fun _ p => .inr p) (fun id p q => by
      rcases p with p | p
      · rcases q with q | q
        · exact gv4.2.2 (by rw [← p, q]; exact (cB bo oB.1).1)
        · exact gv4.2.2 (by rw [← p, q]; exact (cB no oC.1).1)
      · have := (j1.sub id p).2
        rcases q with q | q <;> omega)
    have kO : M_Opener.R (fun id => (id = o5 ∨ V5 id) ∨ (id = bo ∨ id = no)) H1 (oe, got, has, named) _ := mpR (X := None_) (show KI.R None_ H1 _ [.int .i64 oe] from rfl) k234 (fun _ p => p.elim) (fun _ p => p) (fun _ p _ => p.elim)
    have inO : ∀ id, ((id = o5 ∨ V5 id) ∨ (id = bo ∨ id = no)) → id = o5 ∨ S5 id := fun id p => by
      rcases p with (p | p) | (p | p)
      · exact .inl p
      · exact .inr (j1.sub id p).1
      · exact .inr (by rw [p]; exact (j2 bo oB.1).1)
      · exact .inr (by rw [p]; exact (j2 no oC.1).1)
    have kOW : (Kn.mp M_Opener M_PacketS).R (fun id => ((id = o5 ∨ V5 id) ∨ (id = bo ∨ id = no))) H1 ((oe, got, has, named), []) _ := mpR kO r5 (fun _ p => p) (fun _ p => p.elim) (fun id p q => q.elim)
    have kS : (Kn.mp M_SeatS (Kn.mp M_Opener M_PacketS)).R (fun id => (id = o ∨ V id) ∨ ((id = o5 ∨ V5 id) ∨ (id = bo ∨ id = no))) H1 (ss, (oe, got, has, named), []) _ := mpR r1 kOW (fun _ p => .inl p) (fun _ p => .inr p) (fun id p q => by
      rcases p with p | p
      · rcases inO id q with q | q
        · exact d34 (p.symm.trans q)
        · exact gv3.2.2 (by have := (l2 id q).1; rw [p] at this; exact this)
      · have hv := hVlt id p
        rcases q with q | q
        · rcases q with q | q
          · exact gv4.2.2 (by have := (V2 id p).1; rw [q] at this; exact this)
          · have := (j1.sub id q).2; omega
        · rcases q with q | q <;> omega)
    have kC : M_Ceremony.R _ H1 (ep, ss, (oe, got, has, named), []) _ := mpR (X := None_) (show KI.R None_ H1 _ [.int .i64 ep] from rfl) kS (fun _ p => p.elim) (fun _ p => p) (fun _ p _ => p.elim)
    have lt7 : ∀ id, S7 id → id < H1.n := fun id p => by have := (g.froz id p).1; omega
    have ge : ∀ id, ¬ S7 id → H.n ≤ id := fun id p => Nat.not_lt.1 fun q => p (st7 id q).1
    have w3 : New H.n H1.n o := ⟨ge o gv3.2.2, by rw [hn]; exact gv3.2.1⟩
    have w4 : New H.n H1.n o5 := ⟨ge o5 gv4.2.2, by rw [hn]; exact gv4.2.1⟩
    refine (M_Ceremony).more (fun id p => ?_) kC
    rcases p with (p | p) | ((p | p) | (p | p))
    · rw [p]; exact w3
    · exact ⟨(i1.sub id p).2, lt7 id (V2 id p).1⟩
    · rw [p]; exact w4
    · exact ⟨by have := (j1.sub id p).2; omega, lt7 id (V52 id p).1⟩
    · rw [p]; exact ⟨by omega, lt7 bo (cB bo oB.1).1⟩
    · rw [p]; exact ⟨by omega, lt7 no (cB no oC.1).1⟩
  | some o7 =>
    simp only
    refine KW.retM rfl rfl rfl rfl (fun id hid => st7 id hid) (fun H1 g => ⟨_, rfl, ?_⟩)
    have gv3 := g.vars 3 _ rfl
    have gv4 := g.vars 4 _ rfl
    have gv5 := g.vars 5 _ rfl
    have d34 : o ≠ o5 := fun e => by have := g.dist 3 4 _ _ rfl rfl e; omega
    have d35 : o ≠ o7 := fun e => by have := g.dist 3 5 _ _ rfl rfl e; omega
    have d45 : o5 ≠ o7 := fun e => by have := g.dist 4 5 _ _ rfl rfl e; omega
    have hn := g.n_
    have V2 : ∀ id, V id → S7 id ∧ H1.m id = A2.m id := fun id p => ⟨(c7 id (i1.sub id p).1).1, (g.froz id (c7 id (i1.sub id p).1).1).2.trans (c7 id (i1.sub id p).1).2⟩
    have V52 : ∀ id, V5 id → S7 id ∧ H1.m id = A5.m id := fun id p => ⟨(l2 id (j1.sub id p).1).1, (g.froz id (l2 id (j1.sub id p).1).1).2.trans (l2 id (j1.sub id p).1).2⟩
    have V72 : ∀ id, V7 id → S7 id ∧ H1.m id = A7.m id := fun id p => ⟨(l1.sub id p).1, (g.froz id (l1.sub id p).1).2⟩
    have r1 : M_SeatS.R (fun id => id = o ∨ V id) H1 ss _ := ml1' (i1.ml rfl (.inl rfl) (fun p => gv3.2.2 (V2 o p).1) (g.blk (j := 3) rfl).1 (fun id p => ⟨.inr p, (V2 id p).2⟩) (Nat.le_refl _))
    have r2 : M_Int64SS.R (fun id => id = o5 ∨ V5 id) H1 got _ := ml1' (j1.ml rfl (.inl rfl) (fun p => gv4.2.2 (V52 o5 p).1) (g.blk (j := 4) rfl).1 (fun id p => ⟨.inr p, (V52 id p).2⟩) (Nat.le_refl _))
    have r5 : M_PacketS.R (fun id => id = o7 ∨ V7 id) H1 wi _ := ml1' (l1.ml rfl (.inl rfl) (fun p => gv5.2.2 (V72 o7 p).1) (g.blk (j := 5) rfl).1 (fun id p => ⟨.inr p, (V72 id p).2⟩) (Nat.le_refl _))
    have r3 : M_FlagS.R (fun id => id = bo) H1 has _ := bool_ml rfl (((g.froz bo (cB bo oB.1).1).2.trans (cB bo oB.1).2).trans (oB.2.trans hb2)) (Nat.le_refl _)
    have r4 : M_FlagS.R (fun id => id = no) H1 named _ := bool_ml rfl (((g.froz no (cB no oC.1).1).2.trans (cB no oC.1).2).trans (oC.2.trans hc2)) (Nat.le_refl _)
    have eb := hb1.1
    have eb2 := hb1.2
    have ec := hc1.1
    have ec2 := hc1.2
    have k34 : (Kn.mp M_FlagS M_FlagS).R (fun id => id = bo ∨ id = no) H1 (has, named) _ := mpR r3 r4 (fun _ p => .inl p) (fun _ p => .inr p) (fun id p q => by have e1 : id = bo := p; have e2 : id = no := q; omega)
    have k234 : (Kn.mp M_Int64SS (Kn.mp M_FlagS M_FlagS)).R (fun id => (id = o5 ∨ V5 id) ∨ (id = bo ∨ id = no)) H1 (got, has, named) _ := mpR r2 k34 (fun _ p => .inl p) (fun _ p => .inr p) (fun id p q => by
      rcases p with p | p
      · rcases q with q | q
        · exact gv4.2.2 (by rw [← p, q]; exact (cB bo oB.1).1)
        · exact gv4.2.2 (by rw [← p, q]; exact (cB no oC.1).1)
      · have := (j1.sub id p).2
        rcases q with q | q <;> omega)
    have kO : M_Opener.R (fun id => (id = o5 ∨ V5 id) ∨ (id = bo ∨ id = no)) H1 (oe, got, has, named) _ := mpR (X := None_) (show KI.R None_ H1 _ [.int .i64 oe] from rfl) k234 (fun _ p => p.elim) (fun _ p => p) (fun _ p _ => p.elim)
    have inO : ∀ id, ((id = o5 ∨ V5 id) ∨ (id = bo ∨ id = no)) → id = o5 ∨ S5 id := fun id p => by
      rcases p with (p | p) | (p | p)
      · exact .inl p
      · exact .inr (j1.sub id p).1
      · exact .inr (by rw [p]; exact (j2 bo oB.1).1)
      · exact .inr (by rw [p]; exact (j2 no oC.1).1)
    have kOW : (Kn.mp M_Opener M_PacketS).R (fun id => ((id = o5 ∨ V5 id) ∨ (id = bo ∨ id = no)) ∨ (id = o7 ∨ V7 id)) H1 ((oe, got, has, named), wi) _ := mpR kO r5 (fun _ p => .inl p) (fun _ p => .inr p) (fun id p q => by
      rcases inO id p with p | p <;> rcases q with q | q
      · exact d45 (p.symm.trans q)
      · exact gv4.2.2 (by have := (V72 id q).1; rw [p] at this; exact this)
      · exact gv5.2.2 (by have := (l2 id p).1; rw [q] at this; exact this)
      · exact l4 id q p)
    have kS : (Kn.mp M_SeatS (Kn.mp M_Opener M_PacketS)).R (fun id => (id = o ∨ V id) ∨ (((id = o5 ∨ V5 id) ∨ (id = bo ∨ id = no)) ∨ (id = o7 ∨ V7 id))) H1 (ss, (oe, got, has, named), wi) _ := mpR r1 kOW (fun _ p => .inl p) (fun _ p => .inr p) (fun id p q => by
      rcases p with p | p
      · rcases q with q | q
        · rcases inO id q with q | q
          · exact d34 (p.symm.trans q)
          · exact gv3.2.2 (by have := (l2 id q).1; rw [p] at this; exact this)
        · rcases q with q | q
          · exact d35 (p.symm.trans q)
          · exact gv3.2.2 (by have := (V72 id q).1; rw [p] at this; exact this)
      · have hv := hVlt id p
        rcases q with (q | q) | q
        · rcases q with q | q
          · exact gv4.2.2 (by have := (V2 id p).1; rw [q] at this; exact this)
          · have := (j1.sub id q).2; omega
        · rcases q with q | q <;> omega
        · rcases q with q | q
          · exact gv5.2.2 (by have := (V2 id p).1; rw [q] at this; exact this)
          · exact l4 id q (j2 id (o12 id (i1.sub id p).1).1).1)
    have kC : M_Ceremony.R _ H1 (ep, ss, (oe, got, has, named), wi) _ := mpR (X := None_) (show KI.R None_ H1 _ [.int .i64 ep] from rfl) kS (fun _ p => p.elim) (fun _ p => p) (fun _ p _ => p.elim)
    have lt7 : ∀ id, S7 id → id < H1.n := fun id p => by have := (g.froz id p).1; omega
    have ge : ∀ id, ¬ S7 id → H.n ≤ id := fun id p => Nat.not_lt.1 fun q => p (st7 id q).1
    have w3 : New H.n H1.n o := ⟨ge o gv3.2.2, by rw [hn]; exact gv3.2.1⟩
    have w4 : New H.n H1.n o5 := ⟨ge o5 gv4.2.2, by rw [hn]; exact gv4.2.1⟩
    have w5 : New H.n H1.n o7 := ⟨ge o7 gv5.2.2, by rw [hn]; exact gv5.2.1⟩
    refine (M_Ceremony).more (fun id p => ?_) kC
    rcases p with (p | p) | ((p | p) | (p | p)) | (p | p)
    · rw [p]; exact w3
    · exact ⟨(i1.sub id p).2, lt7 id (V2 id p).1⟩
    · rw [p]; exact w4
    · exact ⟨by have := (j1.sub id p).2; omega, lt7 id (V52 id p).1⟩
    · rw [p]; exact ⟨by omega, lt7 bo (cB bo oB.1).1⟩
    · rw [p]; exact ⟨by omega, lt7 no (cB no oC.1).1⟩
    · rw [p]; exact w5
    · exact ⟨(l1.sub id p).2, lt7 id (V72 id p).1⟩
end
end Go.Proofs.YtijmkfnmdhpakaaGreat.Am
/- Contract: CeremonyAfter, the program's side. Each holds under its own conditions. -/
set_option linter.unusedVariables false
set_option linter.unusedSimpArgs false
set_option maxRecDepth 20000
namespace Go.Proofs.YtijmkfnmdhpakaaGreat.Am
open Go Go.RowKit Go.Proofs
theorem cerZ_M {S : Ids} {A : AH} : M_Ceremony.R S A cerZ [.int .i64 0, .slice none 0 0, .int .i64 0, .slice none 0 0, .slice none 0 0, .slice none 0 0, .slice none 0 0] := by
  have z : ∀ {α : Type} {d : Kn α}, d.ml.R None_ A [] [.slice none 0 0] := fun {α d} => ml1' (.inl ⟨rfl, none, 0, rfl, fun _ => rfl⟩)
  have n : ∀ id : Nat, None_ id → S id := fun _ p => p.elim
  have nn : ∀ id : Nat, None_ id → None_ id := fun _ p => p
  have dd : ∀ id : Nat, None_ id → None_ id → False := fun _ p _ => p.elim
  have kO : M_Opener.R None_ A (0, [], [], []) _ := mpR (X := None_) (show KI.R None_ A 0 [.int .i64 0] from rfl) (mpR z (mpR z z nn nn dd) nn nn dd) nn nn dd
  exact mpR (X := None_) (show KI.R None_ A 0 [.int .i64 0] from rfl) (mpR z (mpR kO z nn nn dd) nn nn dd) n n dd
theorem sum_each {α : Type} {f : α → Nat} {M : Nat} : ∀ l : List α, (∀ y ∈ l, f y ≤ M) → sum (l.map f) ≤ l.length * M
  | [], _ => by simp [sum]
  | a :: l, h => by
    have h1 := h a List.mem_cons_self
    have h2 := sum_each l (fun y hy => h y (List.mem_cons_of_mem _ hy))
    simp only [List.map_cons, sum, List.length_cons, Nat.succ_mul]
    omega
theorem epI {x : T_Deal} {e : Int} (hd : DealOk x) (h : e = -1 ∨ EpOk x e) : I64 e := by
  have := hd.bl
  rcases h with h | ⟨h1, h2⟩
  · rw [h]; exact ⟨by decide, by decide⟩
  · exact ⟨by omega, by omega⟩
theorem own20 {x : T_Deal} (hd : DealOk x) (j : Int) : (rowsOf x.1.2.1 j).length ≤ 20 := by
  have h1 := rowsOf_len x.1.2.1 j
  have h2 := hd.sch.len
  have h3 := hd.sch.mat.len
  omega
theorem purse20 {x : T_Deal} {j : Int} {p : T_Purse} (hd : DealOk x) (h : PuOk x j p) : B_Purse p ∧ sz_Purse p ≤ 40 := by
  obtain ⟨e, v, t⟩ := p
  have h20 := own20 hd j
  rcases h with ⟨h1, h2, h3⟩ | ⟨h1, h2⟩
  · simp only at h1 h2 h3
    subst h1; subst h2; subst h3
    exact ⟨⟨⟨by decide, by decide⟩, by show (0 : Nat) ≤ _; decide, by show (0 : Nat) ≤ _; decide⟩, by decide⟩
  · have h3 := h2.vl
    have h4 := h2.tl
    simp only at h3 h4
    refine ⟨⟨epI hd (.inr h1), ?_, ?_⟩, ?_⟩
    · show v.length ≤ _; omega
    · show t.length ≤ _; omega
    · show v.length + t.length ≤ _; omega
theorem CerOk.bound {x : T_Deal} {c : Cer} (hd : DealOk x) (h : CerOk x c) : B_Ceremony (toCer c) ∧ c.seats.length ≤ 7 := by
  have h7 := hd.sch.h7
  have hp := hd.prime.2
  have hsl := h.sl
  have h1 := h.gl
  have h2 := h.hl
  have h3 := h.nl
  have s7 : c.seats.length ≤ 7 := by omega
  have hse : ∀ y ∈ c.seats, B_Seat y ∧ szE_Seat y ≤ 100 := fun y hy => by
    obtain ⟨j, hj⟩ := List.mem_iff_getElem?.1 hy
    have ok := h.se j y hj
    obtain ⟨p1, p2⟩ := purse20 hd ok.pu
    obtain ⟨q1, q2⟩ := purse20 hd ok.sa
    have l := ok.lie
    refine ⟨⟨p1, q1, ⟨by omega, by omega⟩⟩, ?_⟩
    simp only [sz_Purse] at p2 q2
    simp only [szE_Seat]
    omega
  have hpk : ∀ y ∈ c.wire, B_Packet y ∧ szE_Packet y ≤ 100 := fun y hy => by
    have ok := h.wi y hy
    have h20 := own20 hd y.2.1
    have a1 := ok.rw.vl
    have a2 := ok.rw.tl
    have a3 := ok.ho.1
    have a4 := ok.ho.2
    have v1 : y.2.2.2.1.length ≤ 20 := by omega
    have v2 : y.2.2.2.2.length ≤ 20 := by omega
    refine ⟨⟨trivial, ⟨by omega, by omega⟩, epI hd (.inr ok.ep), ?_, ?_⟩, ?_⟩
    · show _ ≤ _; omega
    · show _ ≤ _; omega
    · simp only [szE_Packet, sz_Int64S]; omega
  have hgo : ∀ g ∈ c.got, g.length ≤ 20 := fun g hg => by
    obtain ⟨j, hj⟩ := List.mem_iff_getElem?.1 hg
    have h20 := own20 hd j
    rcases h.go j g hj with ⟨e, _⟩ | ⟨e, _⟩
    · rw [e]; exact Nat.zero_le _
    · omega
  have b1 := sum_each c.seats (fun y hy => (hse y hy).2)
  have b2 := sum_each c.wire (fun y hy => (hpk y hy).2)
  have b3 := sum_each c.got hgo
  have w12 := h.wl
  have fl : ∀ l : List Bool, l.length = c.seats.length → B_FlagS l := fun l hl => by
    refine ⟨by omega, fun _ _ => trivial, ?_⟩
    have := sum_each (f := szE_Flag) (M := 1) l (fun _ _ => Nat.le_refl _)
    omega
  refine ⟨⟨epI hd (.inr h.ep), ⟨by show c.seats.length ≤ _; omega, fun y hy => (hse y hy).1, ?_⟩, ⟨epI hd h.oe, ⟨by show c.got.length ≤ _; omega, ?_⟩, fl _ h2, fl _ h3⟩, ⟨by show c.wire.length ≤ _; omega, fun y hy => (hpk y hy).1, ?_⟩⟩, s7⟩
  · show sum (c.seats.map szE_Seat) ≤ _; omega
  · show sum (c.got.map List.length) ≤ _; omega
  · show sum (c.wire.map szE_Packet) ≤ _; omega
theorem bound_CeremonyAfter {x : T_Deal} {ds : T_DeedS} (hB : B_Deal x) (hBd : B_DeedS ds) : B_Ceremony (r0_CeremonyAfter x ds) := by
  unfold r0_CeremonyAfter
  split
  · rename_i h
    obtain ⟨hd, hdp, _⟩ := given0 h
    exact ((behind_ok hd hdp).bound hd).1
  · exact ⟨⟨by decide, by decide⟩, ⟨by decide, fun y hy => by simp [cerZ] at hy, by decide⟩, ⟨⟨by decide, by decide⟩, ⟨by decide, by decide⟩, ⟨by decide, fun _ _ => trivial, by decide⟩, ⟨by decide, fun _ _ => trivial, by decide⟩⟩, ⟨by decide, fun y hy => by simp [cerZ] at hy, by decide⟩⟩
section
variable {S : Ids} {H0 : AH} {x : T_Deal} {ds : T_DeedS} {dcs : List Value}
theorem impl_CeremonyAfter {a c} (hB : B_Deal x) (hBd : B_DeedS ds) (hD : K_Deal.R S H0 x dcs) (hs : K_DeedS.R S H0 ds [.slice a ds.length c]) : SpecM Tryz.prog S H0 25 [.agg dcs.toArray, .slice a ds.length c] (fun n v H1 => ∃ cs : List Value, v = .tuple #[.agg cs.toArray, .int .i64 (r1_CeremonyAfter x ds), .int .i64 (r2_CeremonyAfter x ds)] ∧ M_Ceremony.R (New n H1.n) H1 (r0_CeremonyAfter x ds) cs) := by
  have hs := sl1 hs
  obtain ⟨d1, d2, d3, d4, d5, d6, d7, d8, rfl⟩ := form_Deal hD
  refine SpecM.of1 Tryz.func25 rfl (by kernel_rfl) rfl (fun H _ => ?_)
  have hD0 : K_Deal.R (Low H.n) H x _ := On.R hD
  have hs0 := hs.up (S' := Low H.n) (H' := H)
  refine KW.callE rfl rfl rfl rfl rfl (deedsCode hB hBd.len hD0 hs0) (fun _ _ => ?_)
  unfold r0_CeremonyAfter r1_CeremonyAfter r2_CeremonyAfter
  refine KW.cndB rfl rfl (fun k1 => ?_) (fun k1 => ?_)
  · have k1 : givenC x ds ≠ 0 := by simpa using k1
    rw [if_neg k1, if_neg k1]
    refine KW.build rfl rfl rfl rfl rfl (built_Cer0) ?_
    refine KW.retM1 rfl rfl rfl rfl (fun H1 g => ⟨_, rfl, cerZ_M⟩)
  have k1 : givenC x ds = 0 := by simpa using k1
  rw [if_pos k1, if_pos k1, k1]
  obtain ⟨hd, hdp, h400⟩ := given0 k1
  have ok := behind_ok hd hdp
  obtain ⟨hBc, h7⟩ := ok.bound hd
  refine KW.fact (fun _ g => g.nle (H1 := H)) (fun hn0 => ?_)
  refine KW.callN1 rfl rfl rfl rfl rfl (implAfter hd hdp h400 hB hD0 hs0) (fun v H1 S1 m1 _ _ hv => ?_)
  obtain ⟨d, X, rfl, hh⟩ := hv
  have hh1 := hh.on (S' := S1) (A' := H1)
  obtain ⟨ks, hks⟩ : ∃ ks, codes x (cer0 x.1.1.toNat) ds = ks := ⟨_, rfl⟩
  rw [hks]
  obtain ⟨cb, hcb⟩ : ∃ cb, behind x ds = cb := ⟨_, rfl⟩
  have hcp : play x (cer0 x.1.1.toNat) ds = cb := hcb
  rw [hcp] at hh1
  rw [hcb] at ok hBc h7 ⊢
  have hha := hh1.hall
  have hSe := hh1.seatSl
  have hWi := hh1.wireSl
  obtain ⟨g0, gcs, g1, g2, g3⟩ := hh1.got
  have hGo : KI.sl.Sl S1 H1 (.slice (some ⟨d.gid, 0, some 1⟩) cb.got.length cb.got.length) cb.got := Cl.sl g3 g0 g1 rfl hh1.sx (Nat.le_refl _)
  have hHa := hh1.has
  have hNa := hh1.named
  have hwi := hh1.wire
  have h1s := hd.sch.h1
  have hsl := ok.sl
  have hgl := ok.gl
  have hhl := ok.hl
  have hnl := ok.nl
  obtain ⟨hid, sid, gid, bid, nid, w⟩ := d
  obtain ⟨aw, cw, hwv⟩ : ∃ aw cw, HD.wv ⟨hid, sid, gid, bid, nid, w⟩ cb.wire.length = .slice aw cb.wire.length cw := by
    cases w with
    | none =>
      have e : cb.wire = [] := hwi
      rw [e]
      exact ⟨none, 0, rfl⟩
    | some iq => exact ⟨_, _, rfl⟩
  have hha2 : H1.m hid = some ⟨HTI.h, true, [.int .i64 cb.ep, .slice (some ⟨sid, 0, some 7⟩) cb.seats.length cb.seats.length, .int .i64 cb.oe, .slice (some ⟨gid, 0, some 1⟩) cb.got.length cb.got.length, .slice (some ⟨bid, 0, some 1⟩) cb.has.length cb.has.length, .slice (some ⟨nid, 0, some 1⟩) cb.named.length cb.named.length, .slice aw cb.wire.length cw] ++ [.int .i64 x.1.1, .slice d1 x.1.2.1.length d2, .int .i64 x.1.2.2.1, .int .i64 x.1.2.2.2.1, .slice d3 x.1.2.2.2.2.length d4, .int .i64 x.2.1, .slice d5 x.2.2.1.length d6, .slice d7 x.2.2.2.length d8]⟩ := by
    have h := hha.2
    simp only [HD.cells, hwv] at h
    exact h
  rw [hwv] at hWi
  refine KW.ldP hha.1 hha2 rfl rfl rfl rfl rfl (bload_seg (ps := [.int .i64 cb.ep, .slice (some ⟨sid, 0, some 7⟩) cb.seats.length cb.seats.length, .int .i64 cb.oe, .slice (some ⟨gid, 0, some 1⟩) cb.got.length cb.got.length, .slice (some ⟨bid, 0, some 1⟩) cb.has.length cb.has.length, .slice (some ⟨nid, 0, some 1⟩) cb.named.length cb.named.length, .slice aw cb.wire.length cw]) rfl rfl rfl (by show 0 + 7 ≤ 15; decide) rfl) ?_
  have hBs := hBc.2.1.each
  have hBw := hBc.2.2.2.each
  have hBg := hBc.2.2.1.2.1.each
  have w12 := ok.wl
  refine KW.callN1 rfl rfl rfl rfl rfl (copied (x := toCer cb) hBs hBw h7 (by show 0 < cb.seats.length; omega) (by show 0 < cb.got.length; omega) hBg (by show cb.got.length ≤ 7; omega) (by show cb.has.length ≤ 7; omega) (by show cb.named.length ≤ 7; omega) (by show cb.wire.length ≤ 12; omega) hSe hGo hHa hNa hWi) (fun v H2 S2 m2 _ _ hv => ?_)
  obtain ⟨cs2, rfl, hM⟩ := hv
  obtain ⟨f1, e1, f2, e2, f3, e3, f4, e4, f5, e5, rfl⟩ := formM_Ceremony hM
  refine KW.retM1 rfl rfl rfl rfl (fun H1 g => ⟨_, rfl, (M_Ceremony).more (g.inn (H := H2) (fun _ p => by have := p.1; omega)) (g.keep hM)⟩)
end
end Go.Proofs.YtijmkfnmdhpakaaGreat.Am
/- The law FnExactCeremonyAfter returns true. No condition beyond the reading of the arguments. -/
set_option linter.unusedVariables false
set_option maxRecDepth 20000
set_option maxHeartbeats 4000000
namespace Go.Proofs.YtijmkfnmdhpakaaGreat.Am
open Go Go.RowKit Go.Proofs
section
variable {S : Ids} {H0 : AH}
theorem lawCeremonyAfter {ar0 : T_Deal} {ar1 : T_DeedS} {cs0 : List Value} {p1 : Option Addr} {q1 : Nat} (hW0 : W_Deal ar0) (h0 : K_Deal.R S H0 ar0 cs0) (hW1 : W_DeedS ar1) (h1 : K_DeedS.R S H0 ar1 [.slice p1 ar1.length q1]) : Spec Tryz.prog S H0 5 [.agg cs0.toArray, .slice p1 ar1.length q1] (fun v => v = .bool true) := by
  obtain ⟨p0_0, q0_0, p0_1, q0_1, p0_2, q0_2, p0_3, q0_3, rfl⟩ := form_Deal h0
  refine Spec.of1 Tryz.func5 rfl (by kernel_rfl) rfl (fun H _ => ?_)
  have A0 : Fk K_Deal (Low H.n) (Low H.n) H ar0 _ := ⟨On.R h0, fun _ p => p⟩
  have A1 : Fk K_DeedS (Low H.n) (Low H.n) H ar1 _ := ⟨On.R h1, fun _ p => p⟩
  refine KW.call rfl rfl rfl rfl rfl (sz_Deal' (left := 1048576) (by decide) (by decide) hW0 A0.all) (fun v n0 _ hv => ?_)
  obtain ⟨r0, rfl, k0⟩ := hv
  refine KW.cnd rfl rfl (fun h => KW.ret rfl rfl rfl rfl rfl) (fun h => ?_)
  have k0 := k0.resolve_left (by omega)
  have hB0 := k0.2.2
  refine KW.call rfl rfl rfl rfl rfl (sz_DeedS'  k0.1 (by have := k0.2.1; omega) hW1 A1.all) (fun v n1 _ hv => ?_)
  obtain ⟨r1, rfl, k1⟩ := hv
  refine KW.cnd rfl rfl (fun h => KW.ret rfl rfl rfl rfl rfl) (fun h => ?_)
  have k1 := k1.resolve_left (by omega)
  have hB1 := k1.2.2
  obtain ⟨q0r, eq0r⟩ : ∃ q, r0_CeremonyAfter ar0 ar1 = q := ⟨_, rfl⟩
  obtain ⟨q1r, eq1r⟩ : ∃ q, r1_CeremonyAfter ar0 ar1 = q := ⟨_, rfl⟩
  obtain ⟨q2r, eq2r⟩ : ∃ q, r2_CeremonyAfter ar0 ar1 = q := ⟨_, rfl⟩
  have cspec : ∀ {S1 : Ids} {H1 : AH} {ca0 : List Value} {pa1 : Option Addr} {qa1 : Nat} (_ : K_Deal.R S1 H1 ar0 ca0) (_ : K_DeedS.R S1 H1 ar1 [.slice pa1 ar1.length qa1]), SpecM Tryz.prog S1 H1 24 [.agg ca0.toArray, .slice pa1 ar1.length qa1] (fun n v H2 => ∃ cs, v = .tuple #[.agg cs.toArray, .int .i64 q1r, .int .i64 q2r] ∧ K_Ceremony.R (New n H2.n) H2 q0r cs) := by
    subst eq0r; subst eq1r; subst eq2r
    intros
    exact spec_CeremonyAfter hB0 hB1 (by assumption) (by assumption)
  have cimpl : ∀ {S1 : Ids} {H1 : AH} {ca0 : List Value} {pa1 : Option Addr} {qa1 : Nat} (_ : K_Deal.R S1 H1 ar0 ca0) (_ : K_DeedS.R S1 H1 ar1 [.slice pa1 ar1.length qa1]), SpecM Tryz.prog S1 H1 25 [.agg ca0.toArray, .slice pa1 ar1.length qa1] (fun n v H2 => ∃ cs, v = .tuple #[.agg cs.toArray, .int .i64 q1r, .int .i64 q2r] ∧ M_Ceremony.R (New n H2.n) H2 q0r cs) := by
    subst eq0r; subst eq1r; subst eq2r
    intros
    exact impl_CeremonyAfter hB0 hB1 (by assumption) (by assumption)
  have hBr : B_Ceremony q0r := by subst eq0r; exact bound_CeremonyAfter hB0 hB1
  refine KW.callN1 rfl rfl rfl rfl rfl (to_Deal hB0 A0.all) (fun v Hb0 Sb0 mb0 _ _ hv => ?_)
  obtain ⟨wb0, rfl, b0⟩ := hv
  obtain ⟨b0_0, b0c_0, b0_1, b0c_1, b0_2, b0c_2, b0_3, b0c_3, rfl⟩ := formM_Deal b0
  refine KW.callN1 rfl rfl rfl rfl rfl (to_DeedS hB1 A1.all) (fun v Hb1 Sb1 mb1 _ _ hv => ?_)
  obtain ⟨b1_0, b1c_0, rfl, b1⟩ := hv
  refine KW.callN1 rfl rfl rfl rfl rfl (cspec ((le_Deal).2 _ _ _ _ (On.R b0)) ((le_DeedS).2 _ _ _ _ (On.R b1))) (fun v Hw Sw mw _ _ hv => ?_)
  obtain ⟨ww, rfl, w⟩ := hv
  obtain ⟨w_0, wc_0, w_1, wc_1, w_2, wc_2, w_3, wc_3, w_4, wc_4, rfl⟩ := form_Ceremony w
  refine KW.callN1 rfl rfl rfl rfl rfl (to_Deal hB0 A0.all) (fun v Hx0 Sx0 mx0 _ _ hv => ?_)
  obtain ⟨wx0, rfl, x0⟩ := hv
  obtain ⟨x0_0, x0c_0, x0_1, x0c_1, x0_2, x0c_2, x0_3, x0c_3, rfl⟩ := formM_Deal x0
  refine KW.callN1 rfl rfl rfl rfl rfl (to_DeedS hB1 A1.all) (fun v Hx1 Sx1 mx1 _ _ hv => ?_)
  obtain ⟨x1_0, x1c_0, rfl, x1⟩ := hv
  refine KW.callN1 rfl rfl rfl rfl rfl (cimpl ((le_Deal).2 _ _ _ _ (On.R x0)) ((le_DeedS).2 _ _ _ _ (On.R x1))) (fun v Hg Sg mg _ _ hv => ?_)
  obtain ⟨wg, rfl, g⟩ := hv
  obtain ⟨g_0, gc_0, g_1, gc_1, g_2, gc_2, g_3, gc_3, g_4, gc_4, rfl⟩ := formM_Ceremony g
  refine KW.callE rfl rfl rfl rfl rfl (eq_Ceremony hBr ((le_Ceremony).2 _ _ _ _ (On.R g)) (On.R w)) (fun _ _ => ?_)
  refine KW.tF rfl rfl (by first | (simp; done) | decide) ?_
  refine KW.tF rfl rfl (by first | (simp; done) | decide) ?_
  refine KW.cF rfl rfl (by first | (simp; done) | decide) ?_
  refine KW.callN1 rfl rfl rfl rfl rfl (to_Deal hB0 A0.all) (fun v Hy0 Sy0 my0 _ _ hv => ?_)
  obtain ⟨wy0, rfl, y0⟩ := hv
  obtain ⟨y0_0, y0c_0, y0_1, y0c_1, y0_2, y0c_2, y0_3, y0c_3, rfl⟩ := formM_Deal y0
  refine KW.callE rfl rfl rfl rfl rfl (eq_Deal hB0 ((le_Deal).2 _ _ _ _ (On.R x0)) ((le_Deal).2 _ _ _ _ (On.R y0))) (fun _ _ => ?_)
  refine KW.cF rfl rfl (by first | (simp; done) | decide) ?_
  refine KW.callN1 rfl rfl rfl rfl rfl (to_DeedS hB1 A1.all) (fun v Hy1 Sy1 my1 _ _ hv => ?_)
  obtain ⟨y1_0, y1c_0, rfl, y1⟩ := hv
  refine KW.callE rfl rfl rfl rfl rfl (eq_DeedS hB1 ((le_DeedS).2 _ _ _ _ (On.R x1)) ((le_DeedS).2 _ _ _ _ (On.R y1))) (fun _ _ => ?_)
  refine KW.cF rfl rfl (by first | (simp; done) | decide) ?_
  have A0 : Fk _ _ Sy1 Hy1 _ _ := A0.up
  have A1 : Fk _ _ Sy1 Hy1 _ _ := A1.up
  have X0 : Fk _ _ Sy1 Hy1 _ _ := Fk.on x0
  have X1 : Fk _ _ Sy1 Hy1 _ _ := Fk.on x1
  have W : Fk _ _ Sy1 Hy1 _ _ := Fk.on w
  have G : Fk _ _ Sy1 Hy1 _ _ := Fk.on g
  have T : St (Low H.n) H Sy1 Hy1 := (inferInstance : On (Low H.n) H Sy1 Hy1).st
  refine KW.callW X0.i rfl rfl rfl rfl rfl (mark_Deal hB0 (k := 1) (by have := size_Deal hB0;  constructor <;> omega) X0.i X0.r) (fun v Hk0 Sk0 mk0 tk0 _ hv => ?_)
  obtain ⟨rfl, _⟩ := hv
  have A0 := A0.w tk0 (fun id p q => by have : id < H.n := p; have := q.1; have := q.2; omega)
  have A1 := A1.w tk0 (fun id p q => by have : id < H.n := p; have := q.1; have := q.2; omega)
  have X1 := X1.w tk0 (fun id p q => by have := p.1; have := p.2; have := q.1; have := q.2; omega)
  have W := W.w tk0 (fun id p q => by have := p.1; have := p.2; have := q.1; have := q.2; omega)
  have G := G.w tk0 (fun id p q => by have := p.1; have := p.2; have := q.1; have := q.2; omega)
  have T := tk0.low T (fun id p q => by have := q.1; omega)
  refine KW.callW X1.i rfl rfl rfl rfl rfl (mark_DeedS hB1 (k := 1 + (sz_Deal ar0 : Nat)) (by have := size_DeedS hB1; have := size_Deal hB0; constructor <;> omega) X1.i X1.r) (fun v Hk1 Sk1 mk1 tk1 _ hv => ?_)
  obtain ⟨rfl, _⟩ := hv
  have A0 := A0.w tk1 (fun id p q => by have : id < H.n := p; have := q.1; have := q.2; omega)
  have A1 := A1.w tk1 (fun id p q => by have : id < H.n := p; have := q.1; have := q.2; omega)
  have W := W.w tk1 (fun id p q => by have := p.1; have := p.2; have := q.1; have := q.2; omega)
  have G := G.w tk1 (fun id p q => by have := p.1; have := p.2; have := q.1; have := q.2; omega)
  have T := tk1.low T (fun id p q => by have := q.1; omega)
  refine KW.tno rfl rfl (by omega) ?_
  refine KW.callE rfl rfl rfl rfl rfl (eq_Ceremony hBr ((le_Ceremony).2 _ _ _ _ G.all) W.all) (fun _ _ => ?_)
  refine KW.tF rfl rfl (by first | (simp; done) | decide) ?_
  refine KW.tF rfl rfl (by first | (simp; done) | decide) ?_
  refine KW.cF rfl rfl (by first | (simp; done) | decide) ?_
  refine KW.callW G.i rfl rfl rfl rfl rfl (mark_Ceremony hBr (k := 1) (by have := size_Ceremony hBr; constructor <;> omega) G.i G.r) (fun v HM SM mM tM _ hv => ?_)
  obtain ⟨rfl, G1⟩ := hv
  have A0 := A0.w tM (fun id p q => by have : id < H.n := p; have := q.1; have := q.2; omega)
  have A1 := A1.w tM (fun id p q => by have : id < H.n := p; have := q.1; have := q.2; omega)
  have W := W.w tM (fun id p q => by have := p.1; have := p.2; have := q.1; have := q.2; omega)
  have T := tM.low T (fun id p q => by have := q.1; omega)
  have G1 : Fk _ _ SM HM _ _ := ⟨G1, fun id p => (tM id (G.i id p)).1⟩
  refine KW.callE rfl rfl rfl rfl rfl (held_Ceremony hBr (k := 1) (by have := size_Ceremony hBr; constructor <;> omega) ((le_Ceremony).2 _ _ _ _ G1.all)) (fun _ _ => ?_)
  refine KW.no rfl rfl (by omega) ?_
  refine KW.cF rfl rfl (by first | (simp; done) | decide) ?_
  refine KW.callN1 rfl rfl rfl rfl rfl (to_Deal hB0 A0.all) (fun v Hu0 Su0 mu0 _ _ hv => ?_)
  obtain ⟨wu0, rfl, u0⟩ := hv
  obtain ⟨u0_0, u0c_0, u0_1, u0c_1, u0_2, u0c_2, u0_3, u0c_3, rfl⟩ := formM_Deal u0
  refine KW.callN1 rfl rfl rfl rfl rfl (to_DeedS hB1 A1.all) (fun v Hu1 Su1 mu1 _ _ hv => ?_)
  obtain ⟨u1_0, u1c_0, rfl, u1⟩ := hv
  refine KW.callN1 rfl rfl rfl rfl rfl (cimpl ((le_Deal).2 _ _ _ _ (On.R u0)) ((le_DeedS).2 _ _ _ _ (On.R u1))) (fun v Hh Sh mh _ _ hv => ?_)
  obtain ⟨wh, rfl, h⟩ := hv
  obtain ⟨h_0, hc_0, h_1, hc_1, h_2, hc_2, h_3, hc_3, h_4, hc_4, rfl⟩ := formM_Ceremony h
  refine KW.callE rfl rfl rfl rfl rfl (eq_Ceremony hBr ((le_Ceremony).2 _ _ _ _ (On.R h)) W.all) (fun _ _ => ?_)
  refine KW.tF rfl rfl (by first | (simp; done) | decide) ?_
  refine KW.tF rfl rfl (by first | (simp; done) | decide) ?_
  refine KW.cF rfl rfl (by first | (simp; done) | decide) ?_
  refine KW.callE rfl rfl rfl rfl rfl (held_Ceremony hBr (k := 1) (by have := size_Ceremony hBr; constructor <;> omega) ((le_Ceremony).2 _ _ _ _ G1.all)) (fun _ _ => ?_)
  refine KW.no rfl rfl (by omega) ?_
  refine KW.cF rfl rfl (by first | (simp; done) | decide) ?_
  exact KW.retM rfl rfl rfl rfl (fun id hid => (T.trans (inferInstance : On SM HM _ _).st) id hid) (fun H1 g => rfl)
end
end Go.Proofs.YtijmkfnmdhpakaaGreat.Am
/- A row's closed facts, each by itself. No condition beyond them. -/
namespace Go.Proofs.YtijmkfnmdhpakaaGreat.Am
open Go
theorem joined_of {P : Program} {f : FuncId} {fn : Func} {s : ChangeSpec} {c : OpenClaim}
    (h0 : (c.wf (OpenSpec.ofChange s)) = true)
    (h1 : (laidOutB P) = true)
    (h2 : (mapsRowed P) = true)
    (h3 : (fn.params.all (P.readableRec ·)) = true)
    (h4 : (namedTie P c.named s.vars) = true)
    (h5 : ((c.stops == [])) = true)
    (h6 : ((P.stops == [])) = true)
    (h7 : ((c.knobs == [])) = true)
    (h8 : ((P.stopKnobs == [])) = true)
    (h9 : ((c.inPlace == P.inPlace f)) = true)
    (h10 : ((c.unfollowed == P.unfollowed f)) = true)
    (h11 : ((c.recurses == P.recurses f)) = true)
    (h12 : ((c.named == P.varsNamed f)) = true)
    (h13 : ((c.maps == (fn.params.toList ++ s.plain.varTypes P).any (P.mapsRec ·))) = true)
    (h14 : ((c.ifaces == (fn.params.toList ++ s.plain.varTypes P).any (P.ifacesRec ·))) = true)
    (h15 : ((c.mapsOut == P.mapsAmong fn.resultTypes.toList)) = true)
    (h16 : ((c.loops == (fn.params.toList ++ s.plain.varTypes P).any (P.loopsFrom ·))) = true)
    (h17 : ((c.wideKeys == (fn.params.toList ++ s.plain.varTypes P ++ fn.resultTypes.toList).any (P.wideKeysFrom ·))) = true)
    (h18 : (s.vars.all (P.varReadable ·)) = true)
    (h19 : (fn.resultTypes.all (fun t => P.readableRec t && decide (t < P.types.size))) = true)
    (h20 : ((c.ifacesOut == fn.resultTypes.toList.any (P.ifacesRec ·))) = true)
    (h21 : ((c.loopsOut == fn.resultTypes.toList.any (P.loopsFrom ·))) = true)
    (h22 : ((c.plainKeys == P.plainKeys)) = true)
    (h23 : (c.shortTexts.isNone) = true)
    (h24 : (P.stopsHeard) = true)
    (h25 : (P.mayEnter) = true)
    (h26 : ((c.lifted == P.liftsFinal)) = true)
    (h27 : ((P.make == some c.make)) = true)
    (h28 : ((c.kinds == (if c.domain.isEmpty then [] else fn.params.toList.map fun t => match P.underlying t with | some (.int k) => some k | _ => none))) = true)
    (h29 : ((c.pinned == c.pinnedBy)) = true)
    (h30 : ((c.veiled == (fn.params.toList ++ s.plain.varTypes P ++ fn.resultTypes.toList).any (P.veiledRec ·))) = true)
    (h31 : (c.veiledFits P fn.params.toList (fn.params.toList ++ s.plain.varTypes P ++ fn.resultTypes.toList)) = true)
    : joinedFacts P f fn s c = true := by
  unfold joinedFacts
  simp only [Bool.and_eq_true]
  exact ⟨⟨⟨⟨⟨⟨⟨⟨⟨⟨⟨⟨⟨⟨⟨⟨⟨⟨⟨⟨⟨⟨⟨⟨⟨⟨⟨⟨⟨⟨⟨h0, h1⟩, h2⟩, h3⟩, h4⟩, h5⟩, h6⟩, h7⟩, h8⟩, h9⟩, h10⟩, h11⟩, h12⟩, h13⟩, h14⟩, h15⟩, h16⟩, h17⟩, h18⟩, h19⟩, h20⟩, h21⟩, h22⟩, h23⟩, h24⟩, h25⟩, h26⟩, h27⟩, h28⟩, h29⟩, h30⟩, h31⟩
end Go.Proofs.YtijmkfnmdhpakaaGreat.Am
