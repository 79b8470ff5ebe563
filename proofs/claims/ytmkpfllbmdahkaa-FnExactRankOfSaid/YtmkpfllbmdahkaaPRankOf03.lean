/- Contracts and laws on abstract memory, merged. Each holds under its own conditions. -/
import Derived.Test.YtmkpfllbmdahkaaPRankOf02
/- Contract: the echelon of the program. It holds under its own conditions. -/
set_option linter.unusedVariables false
set_option linter.unusedSimpArgs false
set_option maxRecDepth 20000
namespace Go.Proofs.Ytmkpfllbmdahkaa.Am
open Go Go.RowKit Go.Proofs Go.Proofs.Ytmkpfllbmdahkaa.Pl
/-- What an echelon yields. -/
def MkE (p : Int) (k : Nat) (e : List (List Int) × List Nat) (n : Nat) (v : Value) (H1 : AH) : Prop := ∃ a1 c1 a2 c2, v = .tuple #[.agg #[.int .i64 p, .int .i64 k, .slice a1 e.2.length c1], .slice a2 e.2.length c2] ∧ KI.ml.Ml (New n H1.n) H1 (.slice a1 e.2.length c1) (e.1.take e.2.length) ∧ KI.Ml (New n H1.n) H1 (.slice a2 e.2.length c2) (e.2.map fun (i : Nat) => (i : Int))
structure EcS where
  c : Nat
  S : Ids
  A : AH
  cs : List Value
  po : Nat
structure EcI (p : Int) (k : Nat) (L : List (List Int)) (H : AH) (V : Ids) (s : EcS) : Prop where
  le : s.c ≤ k
  old : St (Low H.n) H s.S s.A
  b : RowsB KI.ml s.S s.A V (ech p L s.c).1 s.cs
theorem ech_none {p : Int} {L : List (List Int)} {c : Nat} (h : nz (ech p L c).1 c (ech p L c).2.length = (ech p L c).1.length) : ech p L (c + 1) = ech p L c := by
  rw [ech]
  have : rnd p (ech p L c).1 c (ech p L c).2.length = none := by unfold rnd; rw [if_pos h]
  rw [this]
theorem ech_some {p : Int} {L : List (List Int)} {c : Nat} (h : nz (ech p L c).1 c (ech p L c).2.length ≠ (ech p L c).1.length) : ech p L (c + 1) = (tks p c (ech p L c).2.length (lead p (ech p L c).1 c (ech p L c).2.length) ((sw (ech p L c).1 (ech p L c).2.length (nz (ech p L c).1 c (ech p L c).2.length)).set (ech p L c).2.length (lead p (ech p L c).1 c (ech p L c).2.length)) (ech p L c).1.length, (ech p L c).2 ++ [c]) := by
  rw [ech]
  unfold rnd
  rw [if_neg h]
theorem built_Matrix (p c : Int) (a : Option Addr) (n m : Nat) : Try.prog.built 28 [(0, .int .i64 p), (1, .int .i64 c), (2, .slice a n m)] = some #[.int .i64 p, .int .i64 c, .slice a n m] := by kernel_rfl
theorem cell0 {l : List Value} {q : Nat} {v : Value} (h : l[q]? = some v) : l[0 + q * 1]? = some v := by rw [Nat.zero_add, Nat.mul_one]; exact h
section
variable {S : Ids} {H0 : AH}
theorem echelon {p : Int} {k : Nat} (hp : 2 ≤ p ∧ p ≤ 31) (hk : k ≤ 1000) {L : List (List Int)} (hB : B_Int64SS L) (hL : Rect p k L) {a c} (hs : KI.sl.Sl S H0 (.slice a L.length c) L) : SpecM Try.prog S H0 136 [.agg #[.int .i64 p, .int .i64 k, .slice a L.length c]] (MkE p k (ech p L k)) := by
  have hLl := hB.len
  have hok := ech_ok (p := p) (by omega) hL
  refine SpecM.of1 Try.func136 rfl (by kernel_rfl) rfl (fun H _ => ?_)
  refine KW.callN1 rfl rfl rfl rfl rfl (copyRows hB hs.up) (fun v HC SC mC _ _ hv => ?_)
  obtain ⟨o, cs0, V, rfl, ho, hom, hV, hb0⟩ := hv
  have oS := (inferInstance : On (New (H.n + 2) HC.n) HC SC HC).st
  refine KW.thaw o ⟨_, true, cs0⟩ (oS o ho).1 hom ?_
  haveI oH : On (Low H.n) H (fun id => SC id ∧ id ≠ o) HC := On.thaw (fun id hid => by have : id < H.n := hid; have := ho.1; omega)
  have hb1 : RowsB KI.ml (fun id => SC id ∧ id ≠ o) HC V L cs0 := hb0.on (fun id hid => ⟨⟨(oS id (hV id hid).1).1, (hV id hid).2⟩, rfl⟩)
  have hVl : ∀ id, V id → H.n ≤ id := fun id hid => by have := (hV id hid).1.1; omega
  refine KW.lit rfl rfl rfl rfl rfl rfl rfl rfl rfl rfl [] rfl rfl (fun v hv => by simp at hv) rfl ?_
  refine KW.lpM rfl rfl (fun s : EcS => [(1, .pointer (some ⟨H.n, 0, some 0⟩)), (2, .pointer (some ⟨H.n + 1, 0, some 1⟩)), (4, .slice (some ⟨o, 0, some 1⟩) L.length L.length), (5, .slice (some ⟨s.po, 0, some 1⟩) (ech p L s.c).2.length (ech p L s.c).2.length), (16, .int .i64 k), (17, .int .i64 s.c)]) (fun s => s.S) (fun s => s.A) (fun s => [(H.n, ⟨28, true, [.int .i64 p, .int .i64 k, .slice a L.length c]⟩), (H.n + 1, ⟨28, true, [.int .i64 0, .int .i64 0, .slice none 0 0]⟩), (o, ⟨32, true, s.cs⟩), (s.po, ⟨_, true, (ech p L s.c).2.map fun (i : Nat) => Value.int .i64 i⟩)]) (fun s => EcI p k L H V s) (fun s => k - s.c) (⟨0, _, HC, cs0, _⟩) (⟨Nat.zero_le _, oH.st, hb1⟩) ⟨rfl, rfl, rfl, rfl, rfl, rfl, trivial⟩ rfl rfl rfl (fun s hi bE n => ?_)
  obtain ⟨ci, S1, A1, cs, po⟩ := s
  obtain ⟨hle, hold, hb⟩ := hi
  simp only at hle hold hb
  have hoc := hok ci
  haveI oc : Stp (Low H.n) H S1 A1 := ⟨hold⟩
  obtain ⟨q, hn⟩ : ∃ q, (ech p L ci).2.length = q := ⟨_, rfl⟩
  obtain ⟨M, hM⟩ : ∃ M, (ech p L ci).1 = M := ⟨_, rfl⟩
  rw [hM] at hb
  have hcs := hb.len
  have hMl : M.length = L.length := by rw [← hM]; exact hoc.2.1
  have hMr : Rect p k M := by rw [← hM]; exact hoc.1
  have hnL : q ≤ L.length := by rw [← hn]; exact hoc.2.2.1
  have e5 : Value.slice (some ⟨po, 0, some 1⟩) (ech p L ci).2.length (ech p L ci).2.length = Value.slice (some ⟨po, 0, some 1⟩) q q := by rw [hn]
  have e7 : Value.int .i64 ((ech p L ci).2.length : Nat) = Value.int .i64 q := by rw [hn]
  refine KW.cnd rfl rfl (fun h => ?_) (fun h => ?_)
  · have h : (ci : Int) < k := h
    refine KW.lp rfl rfl (fun r : Nat => [(1, .pointer (some ⟨H.n, 0, some 0⟩)), (2, .pointer (some ⟨H.n + 1, 0, some 1⟩)), (4, .slice (some ⟨o, 0, some 1⟩) L.length L.length), (5, .slice (some ⟨po, 0, some 1⟩) q q), (6, .int .i64 ci), (7, .int .i64 q), (8, .int .i64 r), (16, .int .i64 k), (17, .int .i64 ci)]) (fun r => q ≤ r ∧ r ≤ L.length ∧ nz M ci r = nz M ci q) (fun r => L.length - r) (q) (⟨Nat.le_refl _, hnL, rfl⟩) ⟨rfl, rfl, rfl, e5, rfl, e7, e7, rfl, rfl, trivial⟩ (fun r hi bE n => ?_)
    obtain ⟨hr1, hr2, hr3⟩ := hi
    refine KW.tst rfl rfl (fun h1 => ?_) (fun h1 => ?_)
    · have h1 : (r : Int) < L.length := h1
      obtain ⟨w, hw⟩ : ∃ w, M[r]? = some w := ⟨M[r]'(by omega), List.getElem?_eq_getElem (by omega)⟩
      obtain ⟨v, W, hv, hm, hWV, _, _⟩ := hb.row1 hw
      obtain ⟨ra, rc, rfl⟩ := hm.form
      have hwk := hMr.at hw
      refine KW.idx0 rfl rfl rfl rfl rfl rfl rfl rfl rfl (by omega) (h1) ?_
      refine KW.ldT 2 rfl rfl rfl rfl rfl rfl (bload_at (cell0 hv) rfl rfl) ?_
      refine KW.getI ((hm.sl.more (fun id hid => hb.sub id (hWV id hid)))) rfl rfl rfl rfl rfl rfl rfl rfl rfl rfl rfl rfl rfl rfl rfl rfl (by omega) (by omega) (fun x hx => ?_)
      have hx : w[ci]? = some x := hx
      refine KW.cnd rfl rfl (fun k2 => ?_) (fun k2 => ?_)
      · have k2 : x = 0 := k2
        refine KW.nxt rfl rfl (fun H' g => ⟨r + 1, ⟨by omega, by omega, by rw [nz_step hw (by rw [List.getD_eq_getElem?_getD, hx]; exact k2)]; exact hr3⟩, by first | omega | (simp only; omega), ⟨rfl, rfl, rfl, rfl, rfl, rfl, congrArg (Value.int .i64) (inc64 (by omega)), rfl, rfl, trivial⟩, g⟩)
      · have k2 : ¬ x = 0 := k2
        refine KW.no rfl rfl (by omega) ?_
        have e1 : nz M ci q = r := by rw [← hr3]; exact nz_stop hw (by rw [List.getD_eq_getElem?_getD, hx]; exact k2)
        have hrn : q ≤ r := by omega
        have hrL : r < L.length := by omega
        obtain ⟨wn, hwn⟩ : ∃ w, M[q]? = some w := ⟨M[q]'(by omega), List.getElem?_eq_getElem (by omega)⟩
        obtain ⟨vn, Wn, hvn, hmn, _, _, _⟩ := hb.row1 hwn
        obtain ⟨na, nc, rfl⟩ := hmn.form
        refine KW.idx0 rfl rfl rfl rfl rfl rfl rfl rfl rfl (by omega) (by omega) ?_
        refine KW.ldT 2 rfl rfl rfl rfl rfl rfl (bload_at (cell0 hv) rfl rfl) ?_
        refine KW.idx0 rfl rfl rfl rfl rfl rfl rfl rfl rfl (by omega) (by omega) ?_
        refine KW.ldT 2 rfl rfl rfl rfl rfl rfl (bload_at (cell0 hvn) rfl rfl) ?_
        refine KW.idx0 rfl rfl rfl rfl rfl rfl rfl rfl rfl (by omega) (by omega) ?_
        refine KW.st1 2 rfl rfl rfl rfl rfl rfl rfl rfl rfl rfl rfl rfl (by simp only; omega) ?_
        refine KW.idx0 rfl rfl rfl rfl rfl rfl rfl rfl rfl (by omega) (by omega) ?_
        refine KW.st1 2 rfl rfl rfl rfl rfl rfl rfl rfl rfl rfl rfl rfl (by simp only [List.length_set]; omega) ?_
        have hb2 : RowsB KI.ml S1 A1 V (sw M q r) ((cs.set (0 + q * 1) (.slice ra w.length rc)).set (0 + r * 1) (.slice na wn.length nc)) := by
          rw [Nat.zero_add, Nat.zero_add, Nat.mul_one, Nat.mul_one]
          exact hb.swap (by omega) (by omega) hvn hv
        have hM1 : Rect p k (sw M q r) := hMr.sw (by omega) (by omega)
        obtain ⟨w1, hw1⟩ : ∃ w, (sw M q r)[q]? = some w := ⟨(sw M q r)[q]'(by rw [sw_len]; omega), List.getElem?_eq_getElem (by rw [sw_len]; omega)⟩
        have hw1d : (sw M q r).getD q [] = w1 := by rw [List.getD_eq_getElem?_getD, hw1]; rfl
        have hw1k := hM1.at hw1
        obtain ⟨v1, W1, hv1, hm1, hW1, _, hset⟩ := hb2.row1 hw1
        obtain ⟨a1, c1, rfl⟩ := hm1.form
        have hw1l : w1.length = k := hw1k.1
        refine KW.idx0 rfl rfl rfl rfl rfl rfl rfl rfl rfl (by omega) (by omega) ?_
        refine KW.ldT 2 rfl rfl rfl rfl rfl rfl (bload_at (cell0 hv1) rfl rfl) ?_
        refine KW.idx0 rfl rfl rfl rfl rfl rfl rfl rfl rfl (by omega) (by omega) ?_
        refine KW.ldT 2 rfl rfl rfl rfl rfl rfl (bload_at (cell0 hv1) rfl rfl) ?_
        refine KW.getI ((hm1.sl.more (fun id hid => hb2.sub id (hW1 id hid)))) rfl rfl rfl rfl rfl rfl rfl rfl rfl rfl rfl rfl rfl rfl rfl rfl (by omega) (by omega) (fun x1 hx1 => ?_)
        have hx1 : w1[ci]? = some x1 := hx1
        have hx1k := hw1k.2 x1 (List.mem_of_getElem? hx1)
        refine KW.callE rfl rfl rfl rfl rfl (inverse p x1 hp hx1k) (fun _ _ => ?_)
        have hpk := pw_ok (a := x1) hp.1 (p - 2).toNat
        have hsub1 : ∀ id, W1 id → S1 id := fun id hid => hb2.sub id (hW1 id hid)
        refine KW.callW hsub1 rfl rfl rfl rfl rfl (scaled hp hpk (by omega) hw1k.2 hsub1 hm1) (fun v2 H2 S2 hn2 st2 hw2 hv2 => ?_)
        obtain ⟨ld, hld⟩ : ∃ ld, sc p (pw p x1 (p - 2).toNat) w1 = ld := ⟨_, rfl⟩
        have hlead : lead p M ci q = ld := by
          unfold lead
          rw [e1, hw1d, ← hld, List.getD_eq_getElem?_getD, hx1]
          rfl
        have hldk : ld.length = k ∧ ∀ x ∈ ld, 0 ≤ x ∧ x < p := by rw [← hld]; exact sc_ok (by omega) hw1k
        have hb3 := hset S2 H2 _ st2 hv2
        rw [hld] at hb3
        have hold2 : St (Low H.n) H S2 H2 := fun id hid => ⟨(st2 id (hold id hid).1).1, by rw [(st2 id (hold id hid).1).2 (fun hw => by have := hVl id (hW1 id hw); have : id < H.n := hid; omega)]; exact (hold id hid).2⟩
        obtain ⟨M2, hM2⟩ : ∃ M2, (sw M q r).set q ld = M2 := ⟨_, rfl⟩
        rw [hM2] at hb3
        have hM2l : M2.length = L.length := by rw [← hM2, List.length_set, sw_len]; exact hMl
        have hM2r : Rect p k M2 := by rw [← hM2]; exact hM1.set hldk
        have hM2q : M2[q]? = some ld := by rw [← hM2, List.getElem?_set_self (by rw [sw_len]; omega)]
        obtain ⟨cs1, hcs1⟩ : ∃ cs1, (cs.set (0 + q * 1) (.slice ra w.length rc)).set (0 + r * 1) (.slice na wn.length nc) = cs1 := ⟨_, rfl⟩
        rw [hcs1] at hb3
        refine KW.lpM rfl rfl (fun s : (Nat × Ids × AH) => [(1, .pointer (some ⟨H.n, 0, some 0⟩)), (2, .pointer (some ⟨H.n + 1, 0, some 1⟩)), (4, .slice (some ⟨o, 0, some 1⟩) L.length L.length), (5, .slice (some ⟨po, 0, some 1⟩) q q), (6, .int .i64 ci), (7, .int .i64 q), (16, .int .i64 k), (17, .int .i64 ci), (74, .slice (some ⟨o, 0, some 1⟩) L.length L.length), (75, .int .i64 L.length), (76, .int .i64 s.1)]) (fun s => s.2.1) (fun s => s.2.2) (fun s => [(H.n, ⟨28, true, [.int .i64 p, .int .i64 k, .slice a L.length c]⟩), (H.n + 1, ⟨28, true, [.int .i64 0, .int .i64 0, .slice none 0 0]⟩), (o, ⟨32, true, (cs.set (0 + q * 1) (.slice ra w.length rc)).set (0 + r * 1) (.slice na wn.length nc)⟩), (po, ⟨_, true, (ech p L ci).2.map fun (i : Nat) => Value.int .i64 i⟩)]) (fun s => s.1 ≤ L.length ∧ St (Low H.n) H s.2.1 s.2.2 ∧ RowsB KI.ml s.2.1 s.2.2 V (tks p ci q ld M2 s.1) cs1) (fun s => L.length - s.1) ((0, S2, H2)) (⟨Nat.zero_le _, hold2, by simp only [tks_zero]; exact hb3⟩) ⟨rfl, rfl, rfl, rfl, rfl, rfl, rfl, rfl, rfl, rfl, rfl, trivial⟩ rfl rfl rfl (fun s hi bE n => ?_)
        obtain ⟨i, S3, A3⟩ := s
        obtain ⟨hi1, hold3, hb4⟩ := hi
        simp only at hi1 hold3 hb4
        haveI oc3 : Stp (Low H.n) H S3 A3 := ⟨hold3⟩
        rw [← hcs1] at hb4
        refine KW.cnd rfl rfl (fun h3 => ?_) (fun h3 => ?_)
        · have h3 : (i : Int) < L.length := h3
          obtain ⟨wi, hwi⟩ : ∃ w, M2[i]? = some w := ⟨M2[i]'(by omega), List.getElem?_eq_getElem (by omega)⟩
          have hwik := hM2r.at hwi
          obtain ⟨vi, Wi, hvi, hmi, hWi, hoth, hseti⟩ := hb4.row1 ((tks_old (.inl (Nat.le_refl i))).trans hwi)
          obtain ⟨ai, ic, rfl⟩ := hmi.form
          refine KW.idx0 rfl rfl rfl rfl rfl rfl rfl rfl rfl (by omega) (h3) ?_
          refine KW.ldT 2 rfl rfl rfl rfl rfl rfl (bload_at (cell0 hvi) rfl rfl) ?_
          refine KW.cndB rfl rfl (fun h4 => ?_) (fun h4 => ?_)
          · have h4 : i ≠ q := by simp at h4; omega
            obtain ⟨vq, Xq, hvq, hmq, hXq⟩ := hoth q ld (Ne.symm h4) ((tks_old (.inr rfl)).trans hM2q)
            obtain ⟨aq, qc, rfl⟩ := hmq.form
            refine KW.idx0 rfl rfl rfl rfl rfl rfl rfl rfl rfl (by omega) (by omega) ?_
            refine KW.ldT 2 rfl rfl rfl rfl rfl rfl (bload_at (cell0 hvq) rfl rfl) ?_
            refine KW.getI ((hmi.sl.more (fun id hid => hb4.sub id (hWi id hid)))) rfl rfl rfl rfl rfl rfl rfl rfl rfl rfl rfl rfl rfl rfl rfl rfl (by omega) (by omega) (fun xi hxi => ?_)
            have hxi : wi[ci]? = some xi := hxi
            have hxik := hwik.2 xi (List.mem_of_getElem? hxi)
            have hsubi : ∀ id, Wi id → S3 id := fun id hid => hb4.sub id (hWi id hid)
            refine KW.callW hsubi rfl rfl rfl rfl rfl (takeOff hp hxik (by omega) hldk.2 (fun id hid => ⟨hb4.sub id (hXq id hid).1, (hXq id hid).2⟩) hmq.sl (by omega) hwik.2 hsubi hmi) (fun v5 H5 S5 hn5 st5 hw5 hv5 => ?_)
            have hb5 := hseti S5 H5 _ st5 hv5
            have hold5 : St (Low H.n) H S5 H5 := fun id hid => ⟨(st5 id (hold3 id hid).1).1, by rw [(st5 id (hold3 id hid).1).2 (fun hw => by have := hVl id (hWi id hw); have : id < H.n := hid; omega)]; exact (hold3 id hid).2⟩
            have et : tks p ci q ld M2 (i + 1) = (tks p ci q ld M2 i).set i (tk p xi wi ld) := by
              rw [tks_next h4 hwi, List.getD_eq_getElem?_getD, hxi]
              rfl
            rw [← et, hcs1] at hb5
            refine KW.nxt rfl rfl (fun H' g => ⟨(i + 1, S5, H5), ⟨by simp only; omega, hold5, hb5⟩, by first | omega | (simp only; omega), ⟨rfl, rfl, rfl, rfl, rfl, rfl, rfl, rfl, rfl, rfl, congrArg (Value.int .i64) (inc64 (by omega)), trivial⟩, g⟩)
          · have h4 : i = q := by simp at h4; omega
            subst h4
            rw [← tks_skip, hcs1] at hb4
            refine KW.nxt rfl rfl (fun H' g => ⟨(i + 1, S3, A3), ⟨by simp only; omega, hold3, hb4⟩, by first | omega | (simp only; omega), ⟨rfl, rfl, rfl, rfl, rfl, rfl, rfl, rfl, rfl, rfl, congrArg (Value.int .i64) (inc64 (by omega)), trivial⟩, g⟩)
        · have h3 : ¬ (i : Int) < L.length := h3
          have hiL : i = L.length := by omega
          have eE : ech p L (ci + 1) = (tks p ci q ld M2 L.length, (ech p L ci).2 ++ [ci]) := by
            rw [ech_some (by rw [hM, hn, e1]; omega), hM, hn, hlead, e1, hM2, hMl]
          have e8 : ∀ x : Nat, Value.slice (some ⟨x, 0, some 1⟩) (q + 1) (q + 1) = Value.slice (some ⟨x, 0, some 1⟩) (ech p L (ci + 1)).2.length (ech p L (ci + 1)).2.length := fun x => by rw [eE]; simp [hn]
          refine KW.app1 (xs := (ech p L ci).2.map fun (i : Nat) => Value.int .i64 i) (v := .int .i64 ci) 3 4 rfl rfl rfl rfl rfl rfl rfl rfl rfl rfl rfl rfl rfl rfl rfl rfl rfl rfl rfl rfl rfl rfl rfl (by simp [hn]) (by show (_ + 1) * 8 ≤ _; omega) (by first | omega | (simp only; omega)) ?_
          refine KW.nxt rfl rfl (fun H' g => ⟨⟨ci + 1, S3, A3, _, _⟩, ⟨by simp only; omega, hold3, by simp only; rw [eE, ← hiL]; exact hb4⟩, by first | omega | (simp only; omega), ⟨rfl, rfl, rfl, e8 _, rfl, congrArg (Value.int .i64) (inc64 (by omega)), trivial⟩, g.eqT (by simp only [eE, List.map_append]; rfl)⟩)
    · have h1 : ¬ (r : Int) < L.length := h1
      refine KW.cF rfl rfl (by first | (simp; done) | decide) ?_
      refine KW.yes rfl rfl (by omega) ?_
      have e1 : nz (ech p L ci).1 ci (ech p L ci).2.length = (ech p L ci).1.length := by rw [hM, hn, ← hr3, nz_end (by omega)]; omega
      have e2 := ech_none e1
      have e3 : Value.slice (some ⟨po, 0, some 1⟩) q q = Value.slice (some ⟨po, 0, some 1⟩) (ech p L (ci + 1)).2.length (ech p L (ci + 1)).2.length   := by rw [e2, hn]
      refine KW.nxt rfl rfl (fun H' g => ⟨⟨ci + 1, S1, A1, cs, po⟩, ⟨by simp only; omega, hold, by simp only; rw [e2, hM]; exact hb⟩, by first | omega | (simp only; omega), ⟨rfl, rfl, rfl, e3, rfl, congrArg (Value.int .i64) (inc64 (by omega)), trivial⟩, g.eqT (by simp only [e2])⟩)
  · have hck : ci = k := by have h : ¬ (ci : Int) < k := h; omega
    refine KW.slTo (m := (ech p L ci).2.length) rfl rfl rfl rfl rfl rfl rfl rfl rfl (by omega) ?_
    refine KW.build rfl rfl rfl rfl rfl (built_Matrix _ _ _ _ _) ?_
    subst hck
    refine KW.retM1 rfl rfl rfl rfl (fun H1 g => ?_)
    have hno := g.n_
    have hbo := g.blk (j := 2) rfl
    have hbp := g.blk (j := 3) rfl
    have hpo := g.ge (H1 := H) (j := 3) rfl
    refine ⟨_, _, _, _, rfl, ?_, ?_⟩
    · rw [hM]
      exact hb.mlTo g (j := 2) rfl ⟨by have := ho.1; omega, hbo.2⟩ (fun id hid => ⟨hVl id hid, by have := (g.froz id (hb.sub id hid)).1; omega⟩) (by omega) (by omega)
    · have el : ((ech p L ci).2.map fun (i : Nat) => (i : Int)).length = (ech p L ci).2.length := by simp
      have := mlI_of (ik := .i64) (X := New H.n H1.n) (c := (ech p L ci).2.length) (ys := (ech p L ci).2.map fun (i : Nat) => (i : Int)) ⟨hpo, hbp.2⟩ hbp.1 rfl (by rw [el]; exact Nat.le_refl _) (by simp) (fun j x hx => by
        rw [List.getElem?_map] at hx ⊢
        cases hj : (ech p L ci).2[j]? with
        | none => rw [hj] at hx; cases hx
        | some z => rw [hj] at hx; cases hx; rfl)
      rw [el] at this
      exact this
end
end Go.Proofs.Ytmkpfllbmdahkaa.Am
/- Contracts: the rank of the program. Each holds under its own conditions. -/
set_option linter.unusedVariables false
set_option linter.unusedSimpArgs false
set_option maxRecDepth 20000
namespace Go.Proofs.Ytmkpfllbmdahkaa.Am
open Go Go.RowKit Go.Proofs Go.Proofs.Ytmkpfllbmdahkaa.Pl
theorem OkMat.rect {p c : Int} {L : List (List Int)} (h : OkMat p c L) {k : Nat} (hk : c = k) : Rect p k L := fun r hr => by
  have h1 := h.row r hr
  exact ⟨by have := h1.1; omega, fun x hx => by have := h1.2 x hx; omega⟩
def rkM (p c : Int) (L : List (List Int)) : Int := ((ech p L c.toNat).2.length : Nat)
section
variable {S : Ids} {H0 : AH}
theorem rankM {p : Int} {k : Nat} (hp : 2 ≤ p ∧ p ≤ 31) (hk : k ≤ 1000) {L : List (List Int)} (hB : B_Int64SS L) (hL : Rect p k L) {a c} (hs : KI.sl.Sl S H0 (.slice a L.length c) L) : SpecM Try.prog S H0 104 [.agg #[.int .i64 p, .int .i64 k, .slice a L.length c]] (fun _ v _ => v = .int .i64 (rkM p k L)) := by
  refine SpecM.of1 Try.func104 rfl (by kernel_rfl) rfl (fun H _ => ?_)
  refine KW.callN1 rfl rfl rfl rfl rfl (echelon hp hk hB hL hs.up) (fun v HC SC mC _ _ hv => ?_)
  obtain ⟨a1, c1, a2, c2, rfl, _, _⟩ := hv
  refine KW.retM1 rfl rfl rfl rfl (fun H1 g => rfl)
theorem impl_RankOf' {p c : Int} (hp : I64 p) {L : List (List Int)} (hB : B_Int64SS L) {a m} (hs : KI.sl.Sl S H0 (.slice a L.length m) L) : SpecM Try.prog S H0 18 [.agg #[.int .i64 p, .int .i64 c, .slice a L.length m]] (fun _ v _ => v = .tuple #[.int .i64 (if tv (OkMat p c L) then rkM p c L else 0), .int .i64 (if tv (OkMat p c L) then 0 else 1)]) := by
  refine SpecM.of1 Try.func18 rfl (by kernel_rfl) rfl (fun H _ => ?_)
  refine KW.callE rfl rfl rfl rfl rfl (validMatrix p c hp hB hs.up) (fun _ _ => ?_)
  by_cases hM : OkMat p c L
  · rw [tv_true hM]
    obtain ⟨k, hk⟩ : ∃ k : Nat, c = k := ⟨c.toNat, by have := hM.c0; omega⟩
    subst hk
    have h2 := hM.pr
    refine KW.cF rfl rfl (by first | (simp; done) | decide) ?_
    refine KW.callN1 rfl rfl rfl rfl rfl (rankM ⟨h2.1, h2.2.1⟩ (by have := hM.c1; omega) hB (hM.rect rfl) hs.up) (fun v HC SC mC _ _ hv => ?_)
    obtain rfl := hv
    refine KW.retM1 rfl rfl rfl rfl (fun H1 g => rfl)
  · rw [tv_false hM]
    refine KW.cT rfl rfl (by first | (simp; done) | decide) ?_
    refine KW.retM1 rfl rfl rfl rfl (fun H1 g => rfl)
end
end Go.Proofs.Ytmkpfllbmdahkaa.Am
/- Contract: a matrix copied by the reference. It holds under its own conditions. -/
set_option linter.unusedVariables false
set_option linter.unusedSimpArgs false
set_option maxRecDepth 20000
namespace Go.Proofs.Ytmkpfllbmdahkaa.Am
open Go Go.RowKit Go.Proofs Go.Proofs.Ytmkpfllbmdahkaa.Pl
/-- What the copy of a matrix yields. -/
def MkC (p c : Int) (xs : List (List Int)) (ty : TypeId) (n : Nat) (v : Value) (H1 : AH) : Prop :=
  (xs = [] ∧ v = .agg #[.int .i64 p, .int .i64 c, .slice none 0 0]) ∨ (xs ≠ [] ∧ ∃ w, v = .agg #[.int .i64 p, .int .i64 c, w] ∧ MkG xs ty n w H1)
theorem built_Matrix2 (p c : Int) : Try.prog.built 28 [(0, .int .i64 p), (1, .int .i64 c)] = some #[.int .i64 p, .int .i64 c, .slice none 0 0] := by kernel_rfl
structure CpS where
  i : Nat
  S : Ids
  A : AH
  V : Ids
  cs : List Value
  l : Value
  tail : List Var
structure CpI (xs : List (List Int)) (H HB : AH) (SB : Ids) (s : CpS) : Prop where
  rw : RwI (fun x => x) xs H SB HB ⟨s.i, s.S, s.A, s.V, s.cs, 0⟩
  form : (s.i = 0 ∧ s.l = .slice none 0 0 ∧ s.tail = [] ∧ s.cs = []) ∨ (0 < s.i ∧ ∃ o, s.l = .slice (some ⟨o, 0, some 1⟩) s.i s.i ∧ s.tail = [(o, ⟨32, true, s.cs⟩)])
section
variable {S : Ids} {H0 : AH}
theorem l03Copy {p c : Int} {id k : Nat} {xs : List (List Int)} {a m} (hB : B_Int64SS xs) (hv : Has3 S H0 id k [.int .i64 p, .int .i64 c, .slice a xs.length m]) (hs : KI.sl.Sl S H0 (.slice a xs.length m) xs) : SpecM Try.prog S H0 235 [.pointer (some ⟨id, k, none⟩)] (MkC p c xs 32) := by
  have hxl := hB.len
  refine SpecM.of1 Try.func235 rfl (by kernel_rfl) rfl (fun H _ => ?_)
  have hv := hv.up (S' := Low H.n) (H' := H)
  have hs := hs.up (S' := Low H.n) (H' := H)
  refine KW.ldF 0 hv rfl rfl rfl rfl rfl rfl rfl rfl rfl ?_
  refine KW.ldF 1 hv rfl rfl rfl rfl rfl rfl rfl rfl rfl ?_
  refine KW.build rfl rfl rfl rfl rfl (built_Matrix2 _ _) ?_
  refine KW.lpM rfl rfl (fun s : CpS => [(0, .pointer (some ⟨id, k, none⟩)), (2, .pointer (some ⟨H.n, 0, some 0⟩)), (3, .pointer (some ⟨H.n + 1, 0, some 1⟩)), (4, .int .i64 s.i)]) (fun s => s.S) (fun s => s.A) (fun s => [(H.n, ⟨28, true, [.int .i64 0, .int .i64 0, .slice none 0 0]⟩), (H.n + 1, ⟨28, true, [.int .i64 p, .int .i64 c, s.l]⟩)] ++ s.tail) (fun s => CpI xs H H (Low H.n) s) (fun s => xs.length - s.i) (⟨0, Low H.n, H, fun _ => False, [], .slice none 0 0, []⟩) (⟨RwI.start, .inl ⟨rfl, rfl, rfl, rfl⟩⟩) ⟨rfl, rfl, rfl, rfl, trivial⟩ rfl rfl rfl (fun s hi bE n => ?_)
  obtain ⟨i, S1, A1, V, cs, l, tail⟩ := s
  obtain ⟨hr, hform⟩ := hi
  simp only at hr hform
  haveI : Stp (Low H.n) H S1 A1 := ⟨hr.old⟩
  have hle := hr.le
  have hcl := hr.b.len
  rw [List.length_map, List.length_take] at hcl
  simp only at hle hcl
  have hv1 := hv.up (S' := S1) (H' := A1)
  have hs1 := hs.up (S' := S1) (H' := A1)
  rcases hform with ⟨hi0, e1, e2, e3⟩ | ⟨hi0, o, e1, e2⟩
  case' inl => subst e1 e2 e3
  case' inr => subst e1 e2
  all_goals
    refine KW.ldF 2 hv1 rfl rfl rfl rfl rfl rfl rfl rfl rfl ?_
    refine KW.cnd rfl rfl (fun j1 => ?gin) (fun j1 => ?gout)
    case gin =>
      have j1 : (i : Int) < xs.length := j1
      refine KW.ldF 2 hv1 rfl rfl rfl rfl rfl rfl rfl rfl rfl ?_
      refine KW.getL hs1 rfl rfl rfl rfl rfl rfl rfl rfl rfl rfl rfl rfl rfl rfl rfl rfl (by omega) (j1) (fun y ay cy hy hsy => ?_)
      have hy : xs[i]? = some y := hy
      have hyl := hB.each y (List.mem_of_getElem? hy)
      refine KW.ids (fun hlow hvar => ?_)
      have hnA := (hvar 1 (H.n + 1) _ rfl).1
      refine KW.callN1 rfl rfl rfl rfl rfl (l00Own hyl hsy) (fun v HC SC mC _ _ hv => ?_)
      obtain ⟨a5, c5, rfl, hC⟩ := hv
      first
        | (refine KW.app0 (v := .slice a5 y.length c5) 2 rfl rfl rfl rfl rfl rfl rfl rfl rfl rfl rfl rfl rfl rfl rfl rfl rfl rfl rfl rfl rfl rfl (by decide) ?_
           subst hi0
           exact KW.nxt rfl rfl (fun H' g => ⟨⟨1, SC, HC, _, _, _, _⟩, ⟨hr.next (o' := 0) (inferInstance : Stp S1 A1 SC HC).st inferInstance hlow (by omega) hy hC, .inr ⟨by simp only; omega, _, rfl, rfl⟩⟩, by simp only; omega, ⟨rfl, rfl, rfl, rfl, trivial⟩, g⟩))
        | (refine KW.app1 (xs := cs) (v := .slice a5 y.length c5) 2 3 rfl rfl rfl rfl rfl rfl rfl rfl rfl rfl rfl rfl rfl rfl rfl rfl rfl rfl rfl rfl rfl rfl rfl (by omega) (by show (_ + 1) * 24 ≤ _; omega) (by omega) ?_
           exact KW.nxt rfl rfl (fun H' g => ⟨⟨i + 1, SC, HC, _, _, _, _⟩, ⟨hr.next (o' := 0) (inferInstance : Stp S1 A1 SC HC).st inferInstance hlow (by omega) hy hC, .inr ⟨by simp only; omega, _, rfl, rfl⟩⟩, by simp only; omega, ⟨rfl, rfl, rfl, congrArg (Value.int .i64) (inc64 (by omega)), trivial⟩, g⟩))
    case gout =>
      have j1 : ¬ (i : Int) < xs.length := j1
      have he : i = xs.length := by omega
      refine KW.retM1 rfl rfl rfl rfl (fun H1 g => ?_)
      first
        | exact .inl ⟨List.eq_nil_of_length_eq_zero (by omega), rfl⟩
        | (refine .inr ⟨fun hx => by rw [hx] at he; simp at he; omega, _, rfl, ?_⟩
           rw [he]
           exact (⟨hr.le, hr.old, hr.b, hr.v⟩ : RwI (fun x => x) xs H (Low H.n) H ⟨i, S1, A1, V, cs, o⟩).mkG he g (j := 2) rfl (g.ge (H1 := H) (j := 2) rfl))
end
end Go.Proofs.Ytmkpfllbmdahkaa.Am
/- Contract: the echelon of the reference. It holds under its own conditions. -/
set_option linter.unusedVariables false
set_option linter.unusedSimpArgs false
set_option maxRecDepth 20000
namespace Go.Proofs.Ytmkpfllbmdahkaa.Am
open Go Go.RowKit Go.Proofs Go.Proofs.Ytmkpfllbmdahkaa.Pl
theorem sets_comm {cs : List Value} {q r : Nat} {u v : Value} (hq : cs[q]? = some u) (hr : cs[r]? = some v) : (cs.set r u).set q v = (cs.set q v).set r u := by
  by_cases h : q = r
  · subst h
    rw [hq] at hr
    cases hr
    rfl
  · exact List.set_comm _ _ (Ne.symm h)
theorem sw_at {L : List (List Int)} {q r : Nat} {w : List Int} (hq : q < L.length) (hw : L[r]? = some w) : (sw L q r)[q]? = some w := by
  unfold sw
  have hr := (List.getElem?_eq_some_iff.1 hw).1
  have e : L.getD r [] = w := by rw [List.getD_eq_getElem?_getD, hw]; rfl
  rw [List.getElem?_set]
  by_cases h : r = q
  · subst h
    rw [if_pos rfl, if_pos (by simpa using hr), e]
  · rw [if_neg h, List.getElem?_set_self hq, e]
theorem tks_same {p : Int} {c n : Nat} {r : List Int} {L : List (List Int)} {i : Nat} {w : List Int} (hi : i ≠ n) (hw : L[i]? = some w) (h0 : w.getD c 0 = 0) (hl : w.length = r.length) (hx : ∀ x ∈ w, 0 ≤ x ∧ x < p) : tks p c n r L (i + 1) = tks p c n r L i := by
  rw [tks_next hi hw, h0, tk_zero hl hx]
  apply List.ext_getElem?
  intro j
  rw [List.getElem?_set]
  split
  · rename_i e
    subst e
    rw [tks_len, if_pos (List.getElem?_eq_some_iff.1 hw).1, tks_old (.inl (Nat.le_refl _)), hw]
  · rfl
theorem ech_nil {p : Int} : ∀ k, ech p [] k = ([], [])
  | 0 => rfl
  | k + 1 => by
    rw [ech, ech_nil k]
    have : rnd p [] k ([] : List Nat).length = none := by unfold rnd; exact if_pos (nz_end (L := []) (c := k) (a := 0) (Nat.le_refl _))
    simp only [this]
section
variable {S : Ids} {H0 : AH}
theorem l03Echelon {p : Int} {k : Nat} (hp : 2 ≤ p ∧ p ≤ 31) (hk : k ≤ 1000) {L : List (List Int)} (hB : B_Int64SS L) (hL : Rect p k L) {id kk : Nat} {a c} (hv0 : Has3 S H0 id kk [.int .i64 p, .int .i64 k, .slice a L.length c]) (hs : KI.sl.Sl S H0 (.slice a L.length c) L) : SpecM Try.prog S H0 193 [.pointer (some ⟨id, kk, none⟩)] (MkE p k (ech p L k)) := by
  have hLl := hB.len
  have hok := ech_ok (p := p) (by omega) hL
  refine SpecM.of1 Try.func193 rfl (by kernel_rfl) rfl (fun H _ => ?_)
  have hv0 := hv0.up (S' := Low H.n) (H' := H)
  have hs := hs.up (S' := Low H.n) (H' := H)
  refine KW.callN1 rfl rfl rfl rfl rfl (l03Copy hB hv0 hs) (fun v HC SC mC _ _ hC => ?_)
  have hvC := hv0.up (S' := SC) (H' := HC)
  rcases hC with ⟨hL0, rfl⟩ | ⟨hL0, wC, rfl, o, cs0, V, rfl, ho, hom, hV, hb0⟩
  · subst hL0
    refine KW.ldF 0 hvC rfl rfl rfl rfl rfl rfl rfl rfl rfl ?_
    refine KW.lit rfl rfl rfl rfl rfl rfl rfl rfl rfl rfl [] rfl rfl (fun v hv => by simp at hv) rfl ?_
    refine KW.lp rfl rfl (fun _ : Unit => [(0, .pointer (some ⟨id, kk, none⟩)), (2, .pointer (some ⟨H.n, 0, some 0⟩)), (4, .pointer (some ⟨HC.n, 0, some 1⟩)), (5, .int .i64 p), (6, .slice (some ⟨HC.n + 1, 0, some 1⟩) 0 0), (7, .int .i64 0), (8, .int .i64 0)]) (fun _ => True) (fun _ => 0) (()) (trivial) ⟨rfl, rfl, rfl, rfl, rfl, rfl, rfl, trivial⟩ (fun _ hi bE n => ?_)
    refine KW.ldF 1 (hv0.up (S' := SC) (H' := HC)) rfl rfl rfl rfl rfl rfl rfl rfl rfl ?_
    refine KW.tst rfl rfl (fun h => ?_) (fun h => ?_)
    all_goals
      refine KW.cF rfl rfl (by first | (simp; done) | decide) ?_
      refine KW.pure rfl rfl rfl rfl rfl (.slice none 0 0) rfl ?_
      refine KW.retM1 rfl rfl rfl rfl (fun H1 g => ?_)
      rw [ech_nil]
      exact ⟨_, _, _, _, rfl, .inl ⟨rfl, _, _, rfl, fun _ => rfl⟩, .inl ⟨rfl, _, _, rfl, fun h => by cases h⟩⟩
  have oS := (inferInstance : On (New (H.n + 1) HC.n) HC SC HC).st
  refine KW.thaw o ⟨_, true, cs0⟩ (oS o ho).1 hom ?_
  haveI oH : On (Low H.n) H (fun id => SC id ∧ id ≠ o) HC := On.thaw (fun id hid => by have : id < H.n := hid; have := ho.1; omega)
  have hb1 : RowsB KI.ml (fun id => SC id ∧ id ≠ o) HC V L cs0 := hb0.on (fun id hid => ⟨⟨(oS id (hV id hid).1).1, (hV id hid).2⟩, rfl⟩)
  have hVl : ∀ id, V id → H.n ≤ id := fun id hid => by have := (hV id hid).1.1; omega
  refine KW.ldF 0 (hv0.up (S' := fun id => SC id ∧ id ≠ o) (H' := HC)) rfl rfl rfl rfl rfl rfl rfl rfl rfl ?_
  refine KW.lit rfl rfl rfl rfl rfl rfl rfl rfl rfl rfl [] rfl rfl (fun v hv => by simp at hv) rfl ?_
  refine KW.lpM rfl rfl (fun s : EcS => [(0, .pointer (some ⟨id, kk, none⟩)), (2, .pointer (some ⟨H.n, 0, some 0⟩)), (4, .pointer (some ⟨HC.n, 0, some 2⟩)), (5, .int .i64 p), (6, .slice (some ⟨s.po, 0, some 1⟩) (ech p L s.c).2.length (ech p L s.c).2.length), (7, .int .i64 (ech p L s.c).2.length), (8, .int .i64 s.c)]) (fun s => s.S) (fun s => s.A) (fun s => [(H.n, ⟨28, true, [.int .i64 0, .int .i64 0, .slice none 0 0]⟩), (o, ⟨32, true, s.cs⟩), (HC.n, ⟨28, true, [.int .i64 p, .int .i64 k, .slice (some ⟨o, 0, some 1⟩) L.length L.length]⟩), (s.po, ⟨_, true, (ech p L s.c).2.map fun (i : Nat) => Value.int .i64 i⟩)]) (fun s => EcI p k L H V s) (fun s => k - s.c) (⟨0, _, HC, cs0, _⟩) (⟨Nat.zero_le _, oH.st, hb1⟩) ⟨rfl, rfl, rfl, rfl, rfl, rfl, rfl, trivial⟩ rfl rfl rfl (fun s hi bE n => ?_)
  obtain ⟨ci, S1, A1, cs, po⟩ := s
  obtain ⟨hle, hold, hb⟩ := hi
  simp only at hle hold hb
  have hoc := hok ci
  haveI oc : Stp (Low H.n) H S1 A1 := ⟨hold⟩
  obtain ⟨q, hn⟩ : ∃ q, (ech p L ci).2.length = q := ⟨_, rfl⟩
  obtain ⟨M, hM⟩ : ∃ M, (ech p L ci).1 = M := ⟨_, rfl⟩
  rw [hM] at hb
  have hcs := hb.len
  have hMl : M.length = L.length := by rw [← hM]; exact hoc.2.1
  have hMr : Rect p k M := by rw [← hM]; exact hoc.1
  have hnL : q ≤ L.length := by rw [← hn]; exact hoc.2.2.1
  have hv1 := hv0.up (S' := S1) (H' := A1)
  refine KW.ldF 1 hv1 rfl rfl rfl rfl rfl rfl rfl rfl rfl ?_
  refine KW.tst rfl rfl (fun h => ?_) (fun h => ?_)
  · have h : (ci : Int) < k := h
    refine KW.cnd rfl rfl (fun h2 => ?_) (fun h2 => ?_)
    · have h2 : ((ech p L ci).2.length : Int) < L.length := h2
      have e5 : Value.slice (some ⟨po, 0, some 1⟩) (ech p L ci).2.length (ech p L ci).2.length = Value.slice (some ⟨po, 0, some 1⟩) q q := by rw [hn]
      have e7 : Value.int .i64 ((ech p L ci).2.length : Nat) = Value.int .i64 q := by rw [hn]
      have hqL : q < L.length := by omega
      refine KW.lp rfl rfl (fun r : Nat => [(0, .pointer (some ⟨id, kk, none⟩)), (2, .pointer (some ⟨H.n, 0, some 0⟩)), (4, .pointer (some ⟨HC.n, 0, some 2⟩)), (5, .int .i64 p), (6, .slice (some ⟨po, 0, some 1⟩) q q), (7, .int .i64 q), (8, .int .i64 ci), (9, .int .i64 r)]) (fun r => q ≤ r ∧ r ≤ L.length ∧ nz M ci r = nz M ci q) (fun r => L.length - r) (q) (⟨Nat.le_refl _, hnL, rfl⟩) ⟨rfl, rfl, rfl, rfl, e5, e7, rfl, e7, trivial⟩ (fun r hi bE n => ?_)
      obtain ⟨hr1, hr2, hr3⟩ := hi
      refine KW.tst rfl rfl (fun h1 => ?_) (fun h1 => ?_)
      · have h1 : (r : Int) < L.length := h1
        obtain ⟨w, hw⟩ : ∃ w, M[r]? = some w := ⟨M[r]'(by omega), List.getElem?_eq_getElem (by omega)⟩
        obtain ⟨v, W, hv, hm, hWV, _, _⟩ := hb.row1 hw
        obtain ⟨ra, rc, rfl⟩ := hm.form
        have hwk := hMr.at hw
        refine KW.idx0 rfl rfl rfl rfl rfl rfl rfl rfl rfl (by omega) (h1) ?_
        refine KW.ldT 1 rfl rfl rfl rfl rfl rfl (bload_at (cell0 hv) rfl rfl) ?_
        refine KW.getI ((hm.sl.more (fun id hid => hb.sub id (hWV id hid)))) rfl rfl rfl rfl rfl rfl rfl rfl rfl rfl rfl rfl rfl rfl rfl rfl (by omega) (by omega) (fun x hx => ?_)
        have hx : w[ci]? = some x := hx
        refine KW.cnd rfl rfl (fun k2 => ?_) (fun k2 => ?_)
        · have k2 : x = 0 := k2
          refine KW.nxt rfl rfl (fun H' g => ⟨r + 1, ⟨by omega, by omega, by rw [nz_step hw (by rw [List.getD_eq_getElem?_getD, hx]; exact k2)]; exact hr3⟩, by first | omega | (simp only; omega), ⟨rfl, rfl, rfl, rfl, rfl, rfl, rfl, congrArg (Value.int .i64) (inc64 (by omega)), trivial⟩, g⟩)
        · have k2 : ¬ x = 0 := k2
          refine KW.no rfl rfl (by omega) ?_
          have e1 : nz M ci q = r := by rw [← hr3]; exact nz_stop hw (by rw [List.getD_eq_getElem?_getD, hx]; exact k2)
          have hrL : r < L.length := by omega
          obtain ⟨wn, hwn⟩ : ∃ w, M[q]? = some w := ⟨M[q]'(by omega), List.getElem?_eq_getElem (by omega)⟩
          obtain ⟨vn, Wn, hvn, hmn, _, _, _⟩ := hb.row1 hwn
          obtain ⟨na, nc, rfl⟩ := hmn.form
          refine KW.idx0 rfl rfl rfl rfl rfl rfl rfl rfl rfl (by omega) (by omega) ?_
          refine KW.ldT 1 rfl rfl rfl rfl rfl rfl (bload_at (cell0 hv) rfl rfl) ?_
          refine KW.idx0 rfl rfl rfl rfl rfl rfl rfl rfl rfl (by omega) (by omega) ?_
          refine KW.ldT 1 rfl rfl rfl rfl rfl rfl (bload_at (cell0 hvn) rfl rfl) ?_
          refine KW.idx0 rfl rfl rfl rfl rfl rfl rfl rfl rfl (by omega) (by omega) ?_
          refine KW.st1 1 rfl rfl rfl rfl rfl rfl rfl rfl rfl rfl rfl rfl (by simp only; omega) ?_
          refine KW.idx0 rfl rfl rfl rfl rfl rfl rfl rfl rfl (by omega) (by omega) ?_
          refine KW.st1 1 rfl rfl rfl rfl rfl rfl rfl rfl rfl rfl rfl rfl (by simp only [List.length_set]; omega) ?_
          obtain ⟨cs1, hcs1⟩ : ∃ cs1, (cs.set (0 + r * 1) (.slice na wn.length nc)).set (0 + q * 1) (.slice ra w.length rc) = cs1 := ⟨_, rfl⟩
          have hcsq : cs1[q]? = some (.slice ra w.length rc) := by
            rw [← hcs1, Nat.zero_add, Nat.zero_add, Nat.mul_one, Nat.mul_one, List.getElem?_set_self (by rw [List.length_set]; omega)]
          have hb2 : RowsB KI.ml S1 A1 V (sw M q r) cs1 := by
            rw [← hcs1, Nat.zero_add, Nat.zero_add, Nat.mul_one, Nat.mul_one, sets_comm hvn hv]
            exact hb.swap (by omega) (by omega) hvn hv
          have hM1 : Rect p k (sw M q r) := hMr.sw (by omega) (by omega)
          have hw1 : (sw M q r)[q]? = some w := sw_at (by omega) hw
          have hw1d : (sw M q r).getD q [] = w := by rw [List.getD_eq_getElem?_getD, hw1]; rfl
          obtain ⟨v1, W1, hv1q, hm1, hW1, _, hset⟩ := hb2.row1 hw1
          rw [hcsq] at hv1q
          cases hv1q
          have hsub1 : ∀ id, W1 id → S1 id := fun id hid => hb2.sub id (hW1 id hid)
          refine KW.getI ((hm1.sl.more hsub1)) rfl rfl rfl rfl rfl rfl rfl rfl rfl rfl rfl rfl rfl rfl rfl rfl (by omega) (by omega) (fun x1 hx1 => ?_)
          have hx1 : w[ci]? = some x1 := hx1
          have hx1k := hwk.2 x1 (List.mem_of_getElem? hx1)
          refine KW.callE rfl rfl rfl rfl rfl (l03Inverse p x1 hp hx1k) (fun _ _ => ?_)
          have hpk := pw_ok (a := x1) hp.1 (p - 2).toNat
          refine KW.callW hsub1 rfl rfl rfl rfl rfl (l03Times hp hpk (by omega) hwk.2 hsub1 hm1) (fun v2 H2 S2 hn2 st2 hw2 hv2 => ?_)
          obtain ⟨ld, hld⟩ : ∃ ld, sc p (pw p x1 (p - 2).toNat) w = ld := ⟨_, rfl⟩
          have hlead : lead p M ci q = ld := by
            unfold lead
            rw [e1, hw1d, ← hld, List.getD_eq_getElem?_getD, hx1]
            rfl
          have hldk : ld.length = k ∧ ∀ x ∈ ld, 0 ≤ x ∧ x < p := by rw [← hld]; exact sc_ok (by omega) hwk
          have hb3 := hset S2 H2 _ st2 hv2
          rw [hld] at hb3
          have hold2 : St (Low H.n) H S2 H2 := fun id hid => ⟨(st2 id (hold id hid).1).1, by rw [(st2 id (hold id hid).1).2 (fun hw => by have := hVl id (hW1 id hw); have : id < H.n := hid; omega)]; exact (hold id hid).2⟩
          obtain ⟨M2, hM2⟩ : ∃ M2, (sw M q r).set q ld = M2 := ⟨_, rfl⟩
          rw [hM2] at hb3
          have hM2l : M2.length = L.length := by rw [← hM2, List.length_set, sw_len]; exact hMl
          have hM2r : Rect p k M2 := by rw [← hM2]; exact hM1.set hldk
          have hM2q : M2[q]? = some ld := by rw [← hM2, List.getElem?_set_self (by rw [sw_len]; omega)]
          refine KW.lpM rfl rfl (fun s : (Nat × Ids × AH) => [(0, .pointer (some ⟨id, kk, none⟩)), (2, .pointer (some ⟨H.n, 0, some 0⟩)), (4, .pointer (some ⟨HC.n, 0, some 2⟩)), (5, .int .i64 p), (6, .slice (some ⟨po, 0, some 1⟩) q q), (7, .int .i64 q), (8, .int .i64 ci), (10, .slice ra w.length rc), (11, .int .i64 s.1)]) (fun s => s.2.1) (fun s => s.2.2) (fun s => [(H.n, ⟨28, true, [.int .i64 0, .int .i64 0, .slice none 0 0]⟩), (o, ⟨32, true, (cs.set (0 + r * 1) (.slice na wn.length nc)).set (0 + q * 1) (.slice ra w.length rc)⟩), (HC.n, ⟨28, true, [.int .i64 p, .int .i64 k, .slice (some ⟨o, 0, some 1⟩) L.length L.length]⟩), (po, ⟨_, true, (ech p L ci).2.map fun (i : Nat) => Value.int .i64 i⟩)]) (fun s => s.1 ≤ L.length ∧ St (Low H.n) H s.2.1 s.2.2 ∧ RowsB KI.ml s.2.1 s.2.2 V (tks p ci q ld M2 s.1) cs1) (fun s => L.length - s.1) ((0, S2, H2)) (⟨Nat.zero_le _, hold2, by simp only [tks_zero]; exact hb3⟩) ⟨rfl, rfl, rfl, rfl, rfl, rfl, rfl, rfl, rfl, trivial⟩ rfl rfl rfl (fun s hi bE n => ?_)
          obtain ⟨i, S3, A3⟩ := s
          obtain ⟨hi1, hold3, hb4⟩ := hi
          simp only at hi1 hold3 hb4
          haveI oc3 : Stp (Low H.n) H S3 A3 := ⟨hold3⟩
          refine KW.cnd rfl rfl (fun h3 => ?_) (fun h3 => ?_)
          · have h3 : (i : Int) < L.length := h3
            obtain ⟨wi, hwi⟩ : ∃ w, M2[i]? = some w := ⟨M2[i]'(by omega), List.getElem?_eq_getElem (by omega)⟩
            have hwik := hM2r.at hwi
            obtain ⟨vi, Wi, hvi, hmi, hWi, hoth, hseti⟩ := hb4.row1 ((tks_old (.inl (Nat.le_refl i))).trans hwi)
            obtain ⟨ai, ic, rfl⟩ := hmi.form
            rw [← hcs1] at hvi
            have hsubi : ∀ id, Wi id → S3 id := fun id hid => hb4.sub id (hWi id hid)
            refine KW.tstB rfl rfl (fun h4 => ?_) (fun h4 => ?_)
            · have h4 : i ≠ q := by simp at h4; omega
              refine KW.idx0 rfl rfl rfl rfl rfl rfl rfl rfl rfl (by omega) (h3) ?_
              refine KW.ldT 1 rfl rfl rfl rfl rfl rfl (bload_at (cell0 hvi) rfl rfl) ?_
              refine KW.getI ((hmi.sl.more hsubi)) rfl rfl rfl rfl rfl rfl rfl rfl rfl rfl rfl rfl rfl rfl rfl rfl (by omega) (by omega) (fun xi hxi => ?_)
              have hxi : wi[ci]? = some xi := hxi
              have hxik := hwik.2 xi (List.mem_of_getElem? hxi)
              have hgx : wi.getD ci 0 = xi := by rw [List.getD_eq_getElem?_getD, hxi]; rfl
              refine KW.cndB rfl rfl (fun h5 => ?_) (fun h5 => ?_)
              · obtain ⟨vq, Xq, hvq, hmq, hXq⟩ := hoth q ld (Ne.symm h4) ((tks_old (.inr rfl)).trans hM2q)
                rw [hcsq] at hvq
                cases hvq
                have hwl : w.length = ld.length := by omega
                rw [hwl] at hmq
                have ez : IntKind.i64.wrap (p - xi) = p - xi := wr (by omega) (by omega)
                have hadd := l03Add (S := S3) (H0 := A3) (W := Wi) (X := Xq) (p := p) (t := xi) (z := IntKind.i64.wrap (p - xi)) (xs := wi) hp hxik ez (by omega) hldk.2 (fun id hid => ⟨hb4.sub id (hXq id hid).1, (hXq id hid).2⟩) hmq.sl (by omega) hwik.2 hsubi hmi
                rw [← hwl] at hadd
                refine KW.idx0 rfl rfl rfl rfl rfl rfl rfl rfl rfl (by omega) (h3) ?_
                refine KW.ldT 1 rfl rfl rfl rfl rfl rfl (bload_at (cell0 hvi) rfl rfl) ?_
                refine KW.idx0 rfl rfl rfl rfl rfl rfl rfl rfl rfl (by omega) (h3) ?_
                refine KW.ldT 1 rfl rfl rfl rfl rfl rfl (bload_at (cell0 hvi) rfl rfl) ?_
                refine KW.getI ((hmi.sl.more hsubi)) rfl rfl rfl rfl rfl rfl rfl rfl rfl rfl rfl rfl rfl rfl rfl rfl (by omega) (by omega) (fun xj hxj => ?_)
                obtain rfl : xj = xi := by have hxj : wi[ci]? = some xj := hxj; rw [hxi] at hxj; cases hxj; rfl
                refine KW.callW hsubi rfl rfl rfl rfl rfl hadd (fun v5 H5 S5 hn5 st5 hw5 hv5 => ?_)
                have hb5 := hseti S5 H5 _ st5 hv5
                have hold5 : St (Low H.n) H S5 H5 := fun id hid => ⟨(st5 id (hold3 id hid).1).1, by rw [(st5 id (hold3 id hid).1).2 (fun hw => by have := hVl id (hWi id hw); have : id < H.n := hid; omega)]; exact (hold3 id hid).2⟩
                have et := tks_next (p := p) (c := ci) (r := ld) h4 hwi
                rw [hgx] at et
                rw [← et] at hb5
                refine KW.nxt rfl rfl (fun H' g => ⟨(i + 1, S5, H5), ⟨by simp only; omega, hold5, hb5⟩, by first | omega | (simp only; omega), ⟨rfl, rfl, rfl, rfl, rfl, rfl, rfl, rfl, congrArg (Value.int .i64) (inc64 (by omega)), trivial⟩, g⟩)
              · have h5 : xi = 0 := by simpa using h5
                have et := tks_same (p := p) (c := ci) (r := ld) h4 hwi (by rw [hgx]; exact h5) (by omega) hwik.2
                rw [← et] at hb4
                refine KW.nxt rfl rfl (fun H' g => ⟨(i + 1, S3, A3), ⟨by simp only; omega, hold3, hb4⟩, by first | omega | (simp only; omega), ⟨rfl, rfl, rfl, rfl, rfl, rfl, rfl, rfl, congrArg (Value.int .i64) (inc64 (by omega)), trivial⟩, g⟩)
            · have h4 : i = q := by simp at h4; omega
              subst h4
              rw [← tks_skip] at hb4
              refine KW.cF rfl rfl (by first | (simp; done) | decide) ?_
              refine KW.nxt rfl rfl (fun H' g => ⟨(i + 1, S3, A3), ⟨by simp only; omega, hold3, hb4⟩, by first | omega | (simp only; omega), ⟨rfl, rfl, rfl, rfl, rfl, rfl, rfl, rfl, congrArg (Value.int .i64) (inc64 (by omega)), trivial⟩, g⟩)
          · have h3 : ¬ (i : Int) < L.length := h3
            have hiL : i = L.length := by omega
            have eE : ech p L (ci + 1) = (tks p ci q ld M2 L.length, (ech p L ci).2 ++ [ci]) := by
              rw [ech_some (by rw [hM, hn, e1]; omega), hM, hn, hlead, e1, hM2, hMl]
            have e8 : ∀ x : Nat, Value.slice (some ⟨x, 0, some 1⟩) (q + 1) (q + 1) = Value.slice (some ⟨x, 0, some 1⟩) (ech p L (ci + 1)).2.length (ech p L (ci + 1)).2.length := fun x => by rw [eE]; simp [hn]
            have e9 : Value.int .i64 (IntKind.i64.wrap ((q : Int) + 1)) = Value.int .i64 ((ech p L (ci + 1)).2.length : Nat) := by rw [eE]; simp [hn]; rw [wr (by omega) (by omega)]
            rw [← hcs1] at hb4
            refine KW.app1 (xs := (ech p L ci).2.map fun (i : Nat) => Value.int .i64 i) (v := .int .i64 ci) 3 4 rfl rfl rfl rfl rfl rfl rfl rfl rfl rfl rfl rfl rfl rfl rfl rfl rfl rfl rfl rfl rfl rfl rfl (by simp [hn]) (by show (_ + 1) * 8 ≤ _; omega) (by first | omega | (simp only; omega)) ?_
            refine KW.nxt rfl rfl (fun H' g => ⟨⟨ci + 1, S3, A3, _, _⟩, ⟨by simp only; omega, hold3, by simp only; rw [eE, ← hiL]; exact hb4⟩, by first | omega | (simp only; omega), ⟨rfl, rfl, rfl, rfl, e8 _, e9, congrArg (Value.int .i64) (inc64 (by omega)), trivial⟩, g.eqT (by simp only [eE, List.map_append]; rfl)⟩)
      · have h1 : ¬ (r : Int) < L.length := h1
        refine KW.cF rfl rfl (by first | (simp; done) | decide) ?_
        refine KW.yes rfl rfl (by omega) ?_
        have e1 : nz (ech p L ci).1 ci (ech p L ci).2.length = (ech p L ci).1.length := by rw [hM, hn, ← hr3, nz_end (by omega)]; omega
        have e2 := ech_none e1
        have e3 : Value.slice (some ⟨po, 0, some 1⟩) q q = Value.slice (some ⟨po, 0, some 1⟩) (ech p L (ci + 1)).2.length (ech p L (ci + 1)).2.length := by rw [e2, hn]
        have e4 : Value.int .i64 q = Value.int .i64 ((ech p L (ci + 1)).2.length : Nat) := by rw [e2, hn]
        refine KW.nxt rfl rfl (fun H' g => ⟨⟨ci + 1, S1, A1, cs, po⟩, ⟨by simp only; omega, hold, by simp only; rw [e2, hM]; exact hb⟩, by first | omega | (simp only; omega), ⟨rfl, rfl, rfl, rfl, e3, e4, congrArg (Value.int .i64) (inc64 (by omega)), trivial⟩, g.eqT (by simp only [e2])⟩)
    · have hqe : (ech p L ci).2.length = L.length := by have h2 : ¬ ((ech p L ci).2.length : Int) < L.length := h2; omega
      have fin : ech p L k = ech p L ci := by
        have := ech_full (p := p) (L := L) (c := ci) hqe hoc.2.1 (k - ci)
        rw [show ci + (k - ci) = k by omega] at this
        exact this
      refine KW.slTo (m := (ech p L ci).2.length) rfl rfl rfl rfl rfl rfl rfl rfl rfl (by omega) ?_
      refine KW.retM1 rfl rfl rfl rfl (fun H1 g => ?_)
      rw [fin]
      have hno := g.n_
      have hbo := g.blk (j := 1) rfl
      have hbp := g.blk (j := 3) rfl
      have hpo := g.ge (H1 := H) (j := 3) rfl
      refine ⟨_, _, _, _, rfl, ?_, ?_⟩
      · rw [hM]
        exact hb.mlTo g (j := 1) rfl ⟨by have := ho.1; omega, hbo.2⟩ (fun id hid => ⟨hVl id hid, by have := (g.froz id (hb.sub id hid)).1; omega⟩) (by omega) (by omega)
      · have el : ((ech p L ci).2.map fun (i : Nat) => (i : Int)).length = (ech p L ci).2.length := by simp
        have := mlI_of (ik := .i64) (X := New H.n H1.n) (c := (ech p L ci).2.length) (ys := (ech p L ci).2.map fun (i : Nat) => (i : Int)) ⟨hpo, hbp.2⟩ hbp.1 rfl (by rw [el]; exact Nat.le_refl _) (by simp) (fun j x hx => by
          rw [List.getElem?_map] at hx ⊢
          cases hj : (ech p L ci).2[j]? with
          | none => rw [hj] at hx; cases hx
          | some z => rw [hj] at hx; cases hx; rfl)
        rw [el] at this
        exact this
  · have hck : ci = k := by have h : ¬ (ci : Int) < k := h; omega
    have fin : ech p L k = ech p L ci := by rw [hck]
    refine KW.cF rfl rfl (by first | (simp; done) | decide) ?_
    refine KW.slTo (m := (ech p L ci).2.length) rfl rfl rfl rfl rfl rfl rfl rfl rfl (by omega) ?_
    refine KW.retM1 rfl rfl rfl rfl (fun H1 g => ?_)
    rw [fin]
    have hno := g.n_
    have hbo := g.blk (j := 1) rfl
    have hbp := g.blk (j := 3) rfl
    have hpo := g.ge (H1 := H) (j := 3) rfl
    refine ⟨_, _, _, _, rfl, ?_, ?_⟩
    · rw [hM]
      exact hb.mlTo g (j := 1) rfl ⟨by have := ho.1; omega, hbo.2⟩ (fun id hid => ⟨hVl id hid, by have := (g.froz id (hb.sub id hid)).1; omega⟩) (by omega) (by omega)
    · have el : ((ech p L ci).2.map fun (i : Nat) => (i : Int)).length = (ech p L ci).2.length := by simp
      have := mlI_of (ik := .i64) (X := New H.n H1.n) (c := (ech p L ci).2.length) (ys := (ech p L ci).2.map fun (i : Nat) => (i : Int)) ⟨hpo, hbp.2⟩ hbp.1 rfl (by rw [el]; exact Nat.le_refl _) (by simp) (fun j x hx => by
        rw [List.getElem?_map] at hx ⊢
        cases hj : (ech p L ci).2[j]? with
        | none => rw [hj] at hx; cases hx
        | some z => rw [hj] at hx; cases hx; rfl)
      rw [el] at this
      exact this
end
end Go.Proofs.Ytmkpfllbmdahkaa.Am
/- Contracts: the rank of the reference; what both answer. Each holds under its own conditions. -/
set_option linter.unusedVariables false
set_option linter.unusedSimpArgs false
set_option maxRecDepth 20000
namespace Go.Proofs.Ytmkpfllbmdahkaa.Am
open Go Go.RowKit Go.Proofs Go.Proofs.Ytmkpfllbmdahkaa.Pl
noncomputable def r0_RankOf (y : T_Matrix) : Int := if tv (OkMat y.1 y.2.1 y.2.2) then rkM y.1 y.2.1 y.2.2 else 0
noncomputable def r1_RankOf (y : T_Matrix) : Int := if tv (OkMat y.1 y.2.1 y.2.2) then 0 else 1
theorem Good.has3 {S0 : Ids} {H0 H1 : AH} {T : List Var} {n j id : Nat} {ty : TypeId} {rw : Bool} {vs : List Value} (g : Good S0 H0 T n H1) (hj : T[j]? = some (id, ⟨ty, rw, vs⟩)) : Has3 (Low H1.n) H1 id 0 vs := ⟨(g.blk hj).2, _, (g.blk hj).1, fun i v h => by simpa using h⟩
section
variable {S : Ids} {H0 : AH}
theorem l03Rank {p : Int} {k : Nat} (hp : 2 ≤ p ∧ p ≤ 31) (hk : k ≤ 1000) {L : List (List Int)} (hB : B_Int64SS L) (hL : Rect p k L) {id kk : Nat} {a c} (hv0 : Has3 S H0 id kk [.int .i64 p, .int .i64 k, .slice a L.length c]) (hs : KI.sl.Sl S H0 (.slice a L.length c) L) : SpecM Try.prog S H0 101 [.pointer (some ⟨id, kk, none⟩)] (fun _ v _ => v = .int .i64 (rkM p k L)) := by
  refine SpecM.of1 Try.func101 rfl (by kernel_rfl) rfl (fun H _ => ?_)
  refine KW.callN1 rfl rfl rfl rfl rfl (l03Echelon hp hk hB hL (hv0.up (S' := Low H.n) (H' := H)) hs.up) (fun v HC SC mC _ _ hv => ?_)
  obtain ⟨a1, c1, a2, c2, rfl, _, _⟩ := hv
  refine KW.retM1 rfl rfl rfl rfl (fun H1 g => rfl)
theorem spec_RankOf' {p c : Int} (hp : I64 p) {L : List (List Int)} (hB : B_Int64SS L) {a m} (hs : KI.sl.Sl S H0 (.slice a L.length m) L) : SpecM Try.prog S H0 16 [.agg #[.int .i64 p, .int .i64 c, .slice a L.length m]] (fun _ v _ => v = .tuple #[.int .i64 (if tv (OkMat p c L) then rkM p c L else 0), .int .i64 (if tv (OkMat p c L) then 0 else 1)]) := by
  refine SpecM.of1 Try.func16 rfl (by kernel_rfl) rfl (fun H _ => ?_)
  refine KW.callV1 rfl rfl rfl rfl rfl (fun H1 g _ => l03Ok (S := Low H1.n) (H0 := H1) p c hp hB (g.has3 (j := 0) rfl) hs.up) (fun _ _ => ?_)
  by_cases hM : OkMat p c L
  · rw [tv_true hM]
    obtain ⟨k, hk⟩ : ∃ k : Nat, c = k := ⟨c.toNat, by have := hM.c0; omega⟩
    subst hk
    have h2 := hM.pr
    refine KW.cF rfl rfl (by first | (simp; done) | decide) ?_
    refine KW.callNV1 rfl rfl rfl rfl rfl (fun H1 g _ => l03Rank (S := Low H1.n) (H0 := H1) ⟨h2.1, h2.2.1⟩ (by have := hM.c1; omega) hB (hM.rect rfl) (g.has3 (j := 0) rfl) hs.up) (fun v HC SC mC _ _ hv => ?_)
    obtain rfl := hv
    refine KW.retM1 rfl rfl rfl rfl (fun H1 g => rfl)
  · rw [tv_false hM]
    refine KW.cT rfl rfl (by first | (simp; done) | decide) ?_
    refine KW.retM1 rfl rfl rfl rfl (fun H1 g => rfl)
end
end Go.Proofs.Ytmkpfllbmdahkaa.Am
/- Contracts: RankOf, as the law asks for it. Each holds under its own conditions. -/
set_option linter.unusedVariables false
set_option maxRecDepth 20000
namespace Go.Proofs.Ytmkpfllbmdahkaa.Am
open Go Go.RowKit Go.Proofs
section
variable {S : Ids} {H0 : AH}
theorem impl_RankOf {x : T_Matrix} {cs : List Value} (hB : B_Matrix x) (h : K_Matrix.R S H0 x cs) : Spec Try.prog S H0 18 [.agg cs.toArray] (fun v => v = .tuple #[.int .i64 (r0_RankOf x), .int .i64 (r1_RankOf x)]) := by
  obtain ⟨a1, c1, rfl, h2⟩ := split_Matrix h
  exact impl_RankOf' hB.1 hB.2.2 (sl1 h2)
theorem spec_RankOf {x : T_Matrix} {cs : List Value} (hB : B_Matrix x) (h : K_Matrix.R S H0 x cs) : Spec Try.prog S H0 16 [.agg cs.toArray] (fun v => v = .tuple #[.int .i64 (r0_RankOf x), .int .i64 (r1_RankOf x)]) := by
  obtain ⟨a1, c1, rfl, h2⟩ := split_Matrix h
  exact spec_RankOf' hB.1 hB.2.2 (sl1 h2)
end
end Go.Proofs.Ytmkpfllbmdahkaa.Am
/- The law FnExactRankOf returns true. No condition beyond the reading of the arguments. -/
set_option linter.unusedVariables false
set_option maxRecDepth 20000
set_option maxHeartbeats 4000000
namespace Go.Proofs.Ytmkpfllbmdahkaa.Am
open Go Go.RowKit Go.Proofs
section
variable {S : Ids} {H0 : AH}
theorem lawRankOf {ar0 : T_Matrix} {cs0 : List Value} (hW0 : W_Matrix ar0) (h0 : K_Matrix.R S H0 ar0 cs0) : Spec Try.prog S H0 3 [.agg cs0.toArray] (fun v => v = .bool true) := by
  obtain ⟨p0_0, q0_0, rfl⟩ := form_Matrix h0
  refine Spec.of1 Try.func3 rfl (by kernel_rfl) rfl (fun H _ => ?_)
  have A0 : Fk K_Matrix (Low H.n) (Low H.n) H ar0 _ := ⟨On.R h0, fun _ p => p⟩
  refine KW.call rfl rfl rfl rfl rfl (sz_Matrix' (left := 1048576) (by decide) (by decide) hW0 A0.all) (fun v n0 _ hv => ?_)
  obtain ⟨r0, rfl, k0⟩ := hv
  refine KW.cnd rfl rfl (fun h => KW.ret rfl rfl rfl rfl rfl) (fun h => ?_)
  have k0 := k0.resolve_left (by omega)
  have hB0 := k0.2.2
  obtain ⟨q0r, eq0r⟩ : ∃ q, r0_RankOf ar0 = q := ⟨_, rfl⟩
  obtain ⟨q1r, eq1r⟩ : ∃ q, r1_RankOf ar0 = q := ⟨_, rfl⟩
  have cspec : ∀ {S1 : Ids} {H1 : AH} {ca0 : List Value} (_ : K_Matrix.R S1 H1 ar0 ca0), Spec Try.prog S1 H1 16 [.agg ca0.toArray] (fun v => v = .tuple #[.int .i64 q0r, .int .i64 q1r]) := by
    subst eq0r; subst eq1r
    intros
    exact spec_RankOf hB0 (by assumption)
  have cimpl : ∀ {S1 : Ids} {H1 : AH} {ca0 : List Value} (_ : K_Matrix.R S1 H1 ar0 ca0), Spec Try.prog S1 H1 18 [.agg ca0.toArray] (fun v => v = .tuple #[.int .i64 q0r, .int .i64 q1r]) := by
    subst eq0r; subst eq1r
    intros
    exact impl_RankOf hB0 (by assumption)
  refine KW.callN1 rfl rfl rfl rfl rfl (to_Matrix hB0 A0.all) (fun v Hb0 Sb0 mb0 _ _ hv => ?_)
  obtain ⟨wb0, rfl, b0⟩ := hv
  obtain ⟨b0_0, b0c_0, rfl⟩ := formM_Matrix b0
  refine KW.callE rfl rfl rfl rfl rfl (cspec ((le_Matrix).2 _ _ _ _ (On.R b0))) (fun nw mw => ?_)
  refine KW.callN1 rfl rfl rfl rfl rfl (to_Matrix hB0 A0.all) (fun v Hx0 Sx0 mx0 _ _ hv => ?_)
  obtain ⟨wx0, rfl, x0⟩ := hv
  obtain ⟨x0_0, x0c_0, rfl⟩ := formM_Matrix x0
  refine KW.callE rfl rfl rfl rfl rfl (cimpl ((le_Matrix).2 _ _ _ _ (On.R x0))) (fun ng mg => ?_)
  refine KW.tF rfl rfl (by first | (simp; done) | decide) ?_
  refine KW.cF rfl rfl (by first | (simp; done) | decide) ?_
  refine KW.callN1 rfl rfl rfl rfl rfl (to_Matrix hB0 A0.all) (fun v Hy0 Sy0 my0 _ _ hv => ?_)
  obtain ⟨wy0, rfl, y0⟩ := hv
  obtain ⟨y0_0, y0c_0, rfl⟩ := formM_Matrix y0
  refine KW.callE rfl rfl rfl rfl rfl (eq_Matrix hB0 ((le_Matrix).2 _ _ _ _ (On.R x0)) ((le_Matrix).2 _ _ _ _ (On.R y0))) (fun _ _ => ?_)
  refine KW.cF rfl rfl (by first | (simp; done) | decide) ?_
  refine KW.retM1 rfl rfl rfl rfl (fun H1 g => rfl)
end
end Go.Proofs.Ytmkpfllbmdahkaa.Am
/- A row's closed facts, each by itself. No condition beyond them. -/
namespace Go.Proofs.Ytmkpfllbmdahkaa.Am
open Go
theorem joined_of {P : Program} {f : FuncId} {fn : Func} {s : ChangeSpec} {c : OpenClaim}
    (h0 : (c.wf (OpenSpec.ofChange s)) = true)
    (h1 : (laidOutB P) = true)
    (h2 : (mapsRowed P) = true)
    (h3 : (fn.params.all (P.readableRec ·)) = true)
    (h4 : (namedTie P c.named s.vars) = true)
    (h5 : ((c.stops == [])) = true)
    (h6 : ((P.stops == [])) = true)
    (h7 : ((c.knobs == [])) = true)
    (h8 : ((P.stopKnobs == [])) = true)
    (h9 : ((c.inPlace == P.inPlace f)) = true)
    (h10 : ((c.unfollowed == P.unfollowed f)) = true)
    (h11 : ((c.recurses == P.recurses f)) = true)
    (h12 : ((c.named == P.varsNamed f)) = true)
    (h13 : ((c.maps == (fn.params.toList ++ s.plain.varTypes P).any (P.mapsRec ·))) = true)
    (h14 : ((c.ifaces == (fn.params.toList ++ s.plain.varTypes P).any (P.ifacesRec ·))) = true)
    (h15 : ((c.mapsOut == P.mapsAmong fn.resultTypes.toList)) = true)
    (h16 : ((c.loops == (fn.params.toList ++ s.plain.varTypes P).any (P.loopsFrom ·))) = true)
    (h17 : ((c.wideKeys == (fn.params.toList ++ s.plain.varTypes P ++ fn.resultTypes.toList).any (P.wideKeysFrom ·))) = true)
    (h18 : (s.vars.all (P.varReadable ·)) = true)
    (h19 : (fn.resultTypes.all (fun t => P.readableRec t && decide (t < P.types.size))) = true)
    (h20 : ((c.ifacesOut == fn.resultTypes.toList.any (P.ifacesRec ·))) = true)
    (h21 : ((c.loopsOut == fn.resultTypes.toList.any (P.loopsFrom ·))) = true)
    (h22 : ((c.plainKeys == P.plainKeys)) = true)
    (h23 : (c.shortTexts.isNone) = true)
    (h24 : (P.stopsHeard) = true)
    (h25 : (P.mayEnter) = true)
    (h26 : ((c.lifted == P.liftsFinal)) = true)
    (h27 : ((P.make == some c.make)) = true)
    (h28 : ((c.kinds == (if c.domain.isEmpty then [] else fn.params.toList.map fun t => match P.underlying t with | some (.int k) => some k | _ => none))) = true)
    (h29 : ((c.pinned == c.pinnedBy)) = true)
    (h30 : ((c.veiled == (fn.params.toList ++ s.plain.varTypes P ++ fn.resultTypes.toList).any (P.veiledRec ·))) = true)
    (h31 : (c.veiledFits P fn.params.toList (fn.params.toList ++ s.plain.varTypes P ++ fn.resultTypes.toList)) = true)
    : joinedFacts P f fn s c = true := by
  unfold joinedFacts
  simp only [Bool.and_eq_true]
  exact ⟨⟨⟨⟨⟨⟨⟨⟨⟨⟨⟨⟨⟨⟨⟨⟨⟨⟨⟨⟨⟨⟨⟨⟨⟨⟨⟨⟨⟨⟨⟨h0, h1⟩, h2⟩, h3⟩, h4⟩, h5⟩, h6⟩, h7⟩, h8⟩, h9⟩, h10⟩, h11⟩, h12⟩, h13⟩, h14⟩, h15⟩, h16⟩, h17⟩, h18⟩, h19⟩, h20⟩, h21⟩, h22⟩, h23⟩, h24⟩, h25⟩, h26⟩, h27⟩, h28⟩, h29⟩, h30⟩, h31⟩
end Go.Proofs.Ytmkpfllbmdahkaa.Am
