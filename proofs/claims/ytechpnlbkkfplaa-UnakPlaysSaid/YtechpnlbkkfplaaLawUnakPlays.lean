/- UnakPlays: tags are given, found, marked and taken as the document says. -/
import Derived.Test.YtechpnlbkkfplaaAwake18
import Derived.Test.YtechpnlbkkfplaaRefUnak2
import Derived.Test.YtechpnlbkkfplaaPrLaw18Sametags
import Derived.Test.YtechpnlbkkfplaaPrLaw18Sameholds
import Derived.Test.YtechpnlbkkfplaaPrLaw18Unakplays
import Derived.Test.YtechpnlbkkfplaaArOp18
set_option linter.unusedVariables false
set_option linter.unusedSimpArgs false
namespace Go.Proofs.Ytechpnlbkkfplaa.Pr
open Go Go.Lift Go.Proofs

section
variable {K : KT} {L R : List Asr} {h : Heap} {u w : Addr} {W : URow} {last : Int}
theorem sameTagsS {a b : SV} {xs : List Int} (hx : xs.length < 1000000) (ha : Sl 1 h a.1 a.2.1 (xs.map kkU)) (hb : Sl 1 h b.1 b.2.1 (xs.map kkU)) (hK : K (.bool true) h) : CallsH P F.waybilllaw18_sameTags [.slice a.1 a.2.1 a.2.2, .slice b.1 b.2.1 b.2.2] K h := by
  have ea : a.2.1 = xs.length := by have := ha.1; simpa using this.symm
  have eb : b.2.1 = xs.length := by have := hb.1; simpa using this.symm
  refine waybilllaw18_sameTags.ok ?_
  unfold waybilllaw18_sameTags.p0
  have go : ∀ (fuel i : Nat), xs.length - i < fuel → i ≤ xs.length → waybilllaw18_sameTags.L1 K fuel a.1 a.2.1 a.2.2 b.1 b.2.1 b.2.2 i h := by
    intro fuel
    induction fuel with
    | zero => intro i hf; omega
    | succ fuel ih =>
      intro i hf hi
      unfold waybilllaw18_sameTags.L1
      by_cases hlt : i < xs.length
      · refine ifT (by simp; omega) (ixV (n := i) (w := kkU xs[i]) ha rfl (by simp [hlt]) fun p ep cp => ixV (n := i) (w := kkU xs[i]) hb rfl (by simp [hlt]) fun p2 ep2 cp2 => ⟨_, cp, _, cp2, ifF (bne_self_eq_false _) ?_⟩)
        unfold bd
        rw [show IntKind.i64.wrap ((i : Int) + 1) = ((i + 1 : Nat) : Int) from wrapS (by omega) (by omega)]
        exact ih (i + 1) (by omega) (by omega)
      · exact ifF (by simp; omega) hK
  exact ifF (by rw [ea, eb]; exact bne_self_eq_false _) ⟨xs.length + 1, go _ 0 (by omega) (by omega)⟩
theorem sameHoldsS {a b : SV} {xs : List Hld} (hx : xs.length < 1000000) (ha : Sl 2 h a.1 a.2.1 (xs.flatMap hdc)) (hb : Sl 2 h b.1 b.2.1 (xs.flatMap hdc)) (hK : K (.bool true) h) : CallsH P F.waybilllaw18_SameHolds [.slice a.1 a.2.1 a.2.2, .slice b.1 b.2.1 b.2.2] K h := by
  have ea : a.2.1 = xs.length := by have := ha.1; rw [hdc_len2] at this; omega
  have eb : b.2.1 = xs.length := by have := hb.1; rw [hdc_len2] at this; omega
  refine waybilllaw18_SameHolds.ok ?_
  unfold waybilllaw18_SameHolds.p0
  have go : ∀ (fuel i : Nat), xs.length - i < fuel → i ≤ xs.length → waybilllaw18_SameHolds.L1 K fuel a.1 a.2.1 a.2.2 b.1 b.2.1 b.2.2 i h := by
    intro fuel
    induction fuel with
    | zero => intro i hf; omega
    | succ fuel ih =>
      intro i hf hi
      unfold waybilllaw18_SameHolds.L1
      by_cases hlt : i < xs.length
      · have hx : xs[i]? = some xs[i] := List.getElem?_eq_getElem hlt
        refine ifT (by simp; omega) ?_
        obtain ⟨p, ep, p0, p1, cs, rd, e⟩ := ixS hdc2 (by decide) ha (i := (i : Int)) rfl hx (R := fun cs => cs = hdc xs[i]) rfl
        obtain ⟨p', ep', p0', p1', cs', rd', e'⟩ := ixS hdc2 (by decide) hb (i := (i : Int)) rfl hx (R := fun cs => cs = hdc xs[i]) rfl
        subst e
        subst e'
        refine ⟨p, ep, p0, p1, p', ep', p0', p1', _, rd, _, rd', hldNeqS (a := xs[i]) (b := xs[i]) _ _ ⟨_, rfl, ifF (by simp) ?_⟩⟩
        unfold bd
        rw [show IntKind.i64.wrap ((i : Int) + 1) = ((i + 1 : Nat) : Int) from wrapS (by omega) (by omega)]
        exact ih (i + 1) (by omega) (by omega)
      · exact ifF (by simp; omega) hK
  exact ifF (by rw [ea, eb]; exact bne_self_eq_false _) ⟨xs.length + 1, go _ 0 (by omega) (by omega)⟩

theorem findU_le (W : URow) (tag : Int) (many : Bool) : ((findO W tag many).getD []).length ≤ W.length + 1 := by
  unfold findO
  split
  · simp only [Option.getD_some]
    split
    · unfold findU
      rw [List.length_map]
      have := List.length_filter_le (fun x : Int × (Hld × Bool) => !x.2.2 && (tag == 0 || decide (x.1 ≤ tag))) W
      omega
    · simp
  · simp

abbrev cOp8 (x : Ar.X_Op18) : List Value := Ar.c_Op18 x
theorem cOp85 : ∀ x, (cOp8 x).length = 5 := fun _ => rfl
theorem cOp8_one (x : Ar.X_Op18) : ∀ v ∈ cOp8 x, one v = true := by simp [one]

variable {t : SV} {xs : List Ar.X_Op18}
theorem up_loop (ht : t.2.1 = xs.length) (hw : ∀ x ∈ xs, Ar.q_Op18 x) [In (Im 5 t) L (xs.flatMap cOp8)] (hK : ∀ h', St L h' → K (.bool true) h') :
    ∀ (fuel i : Nat) (W : URow) (last : Int) (h : Heap), xs.length - i < fuel → i ≤ xs.length → i ≤ 80 → W.length ≤ i → 0 ≤ last ∧ last ≤ i → St (UnW u W last :: DuW w W last :: L) h → waybilllaw18_UnakPlays.L2 K fuel t.1 t.2.1 t.2.2 (some u) (some w) i h
  | 0, _, _, _, _, hf, _, _, _, _, _ => absurd hf (Nat.not_lt_zero _)
  | fuel + 1, i, W, last, h, hf, hi, h80, hW, hla, S => by
    have up := (UnW.up S).1
    have hl : W.length < 1000000 := by omega
    unfold waybilllaw18_UnakPlays.L2
    have jF : waybilllaw18_UnakPlays.j3 K (waybilllaw18_UnakPlays.L2 K fuel) t.1 t.2.1 t.2.2 (some u) (some w) i false h := by
      unfold waybilllaw18_UnakPlays.j3
      exact ifF rfl (hK h S.tl.tl)
    by_cases hlt : i < xs.length
    · refine ifT (by simp [ht]; omega) ?_
      by_cases h8 : i < 80
      · rw [show decide ((i : Int) < 80) = true by simp; omega]
        unfold waybilllaw18_UnakPlays.j3
        have hx : xs[i]? = some xs[i] := List.getElem?_eq_getElem hlt
        have hq := hw _ (List.getElem_mem hlt)
        generalize xs[i] = o at hx hq
        obtain ⟨kd, tg, mn, hq1, hq2⟩ := o
        have htg := wf_u64 hq.2.1
        refine ifT rfl (ixS cOp85 (by decide) (S.isl 5 t) rfl hx ?_)
        refine St.bd1 (cs := [.int .i64 0, .int .u64 0, .bool false, .string (mkS []), .int .u64 0]) S fun S1 => ⟨rfl, S1.wrA (ws := cOp8 (kd, tg, mn, hq1, hq2)) rfl (cOp8_one _) fun h2 S => ⟨_, S.c 0 rfl, ?_⟩⟩
        generalize top h = x6 at *
        have j4 : ∀ (W' : URow) (last' : Int) (h' : Heap), W'.length ≤ i + 1 → 0 ≤ last' ∧ last' ≤ i + 1 → St (UnW u W' last' :: DuW w W' last' :: L) h' → waybilllaw18_UnakPlays.j4 K (waybilllaw18_UnakPlays.L2 K fuel) t.1 t.2.1 t.2.2 (some u) (some w) i h' := fun W' last' h' hl' hla' S' => by
          have up' := (UnW.up S').1
          have hle := findU_le W' 0 true
          unfold waybilllaw18_UnakPlays.j4
          refine findUnakW S' (by omega) (by omega) fun h3 a S3 => ⟨a.1, a.2.1, a.2.2, _, rfl, ?_⟩
          refine findU16 S3.p2 up' (by omega) (by omega) fun h4 b S4 => ⟨b.1, b.2.1, b.2.2, _, rfl, w, rfl, ?_⟩
          have S5 : St (UnW u W' last' :: DuW w W' last' :: Ow 1 b ((((findO W' 0 true).getD [])).map kkU) :: Ow 1 a ((((findO W' 0 true).getD [])).map kkU) :: L) h4 := S4.to
          have j5 : ∀ h5, St (UnW u W' last' :: DuW w W' last' :: L) h5 → waybilllaw18_UnakPlays.j5 K (waybilllaw18_UnakPlays.L2 K fuel) t.1 t.2.1 t.2.2 (some u) (some w) i (!((findO W' 0 true).isSome == (findO W' 0 true).isSome)) h5 := fun h5 S6 => by
            unfold waybilllaw18_UnakPlays.j5
            refine ifF (by simp) ?_
            unfold bd
            rw [show IntKind.i64.wrap ((i : Int) + 1) = ((i + 1 : Nat) : Int) from wrapS (by omega) (by omega)]
            exact up_loop ht hw hK fuel (i + 1) W' last' h5 (by omega) (by omega) (by omega) hl' (by omega) S6
          have dl : ∀ h5, St (UnW u W' last' :: DuW w W' last' :: Ow 1 b ((((findO W' 0 true).getD [])).map kkU) :: Ow 1 a ((((findO W' 0 true).getD [])).map kkU) :: L) h5 → ∃ s : SV, hcell h5 (Addr.add w 0) = some (.slice s.1 s.2.1 s.2.2) ∧ s.2.1 = W'.length := fun h5 S6 => by
            obtain ⟨s, S7⟩ := DuW.out S6.p1
            exact ⟨s, S7.c 0 rfl, (DuL.len S7).1⟩
          have tags : ∀ h5, St (UnW u W' last' :: DuW w W' last' :: Ow 1 b ((((findO W' 0 true).getD [])).map kkU) :: Ow 1 a ((((findO W' 0 true).getD [])).map kkU) :: L) h5 → CallsH P F.waybilllaw18_sameTags [.slice a.1 a.2.1 a.2.2, .slice b.1 b.2.1 b.2.2] (fun v23 h24 => ∃ b25, v23 = .bool b25 ∧ ((!b25) = false → waybilllaw18_UnakPlays.j5 K (waybilllaw18_UnakPlays.L2 K fuel) t.1 t.2.1 t.2.2 (some u) (some w) i (!((findO W' 0 true).isSome == (findO W' 0 true).isSome)) h24) ∧ ((!b25) = true → waybilllaw18_UnakPlays.j5 K (waybilllaw18_UnakPlays.L2 K fuel) t.1 t.2.1 t.2.2 (some u) (some w) i true h24)) h5 := fun h5 S6 =>
            sameTagsS (by omega) S6.p3.sl S6.p2.sl ⟨_, rfl, ifF' rfl (j5 h5 (show St (UnW u W' last' :: DuW w W' last' :: L) h5 from S6.to))⟩
          with_reducible refine And.intro ?_ ?_
          · refine lenUnakW S5 fun h5 S6 => ⟨_, rfl, ?_⟩
            obtain ⟨s, e1, e2⟩ := dl h5 S6
            exact ⟨_, _, _, e1, ifF' (by rw [e2]; exact bne_self_eq_false _) (tags h5 S6)⟩
          · obtain ⟨s, e1, e2⟩ := dl h4 S5
            refine ⟨_, _, _, e1, lenUnakW S5 fun h5 S6 => ⟨_, rfl, ifF' (by rw [e2]; exact bne_self_eq_false _) (tags h5 S6)⟩⟩
        have j6T : waybilllaw18_UnakPlays.j6 K (waybilllaw18_UnakPlays.L2 K fuel) t.1 t.2.1 t.2.2 (some u) (some w) i x6 kd true h2 := by
          have hle := findU_le W tg mn
          unfold waybilllaw18_UnakPlays.j6
          refine ifT rfl ⟨_, S.c 1 rfl, _, S.c 2 rfl, ?_⟩
          refine findUnakW S.p1 (by omega) (by omega) fun h3 a S3 => ⟨a.1, a.2.1, a.2.2, _, rfl, ?_⟩
          have S3 : St (Bx x6 (cOp8 (kd, tg, mn, hq1, hq2)) :: DuW w W last :: UnW u W last :: Ow 1 a (((findO W tg mn).getD []).map kkU) :: L) h3 := S3.to
          refine ⟨_, S3.c 1 rfl, _, S3.c 2 rfl, ?_⟩
          refine findU16 S3.p1 up htg.1 hl fun h4 b S4 => ⟨b.1, b.2.1, b.2.2, _, rfl, ?_⟩
          have S4 : St (Ow 1 b (((findO W tg mn).getD []).map kkU) :: UnW u W last :: DuW w W last :: Bx x6 (cOp8 (kd, tg, mn, hq1, hq2)) :: Ow 1 a (((findO W tg mn).getD []).map kkU) :: L) h4 := S4.to
          refine sameTagsS (by omega) S4.p4.sl S4.sl ⟨_, rfl, ifF' rfl ?_⟩
          have S5 : St (Im 1 b (((findO W tg mn).getD []).map kkU) :: UnW u W last :: DuW w W last :: Bx x6 (cOp8 (kd, tg, mn, hq1, hq2)) :: L) h4 := St.to (show St (Im 1 b (((findO W tg mn).getD []).map kkU) :: UnW u W last :: DuW w W last :: Bx x6 (cOp8 (kd, tg, mn, hq1, hq2)) :: Ow 1 a (((findO W tg mn).getD []).map kkU) :: L) h4 from S4.im)
          generalize (findO W tg mn).getD [] = ts at *
          have j9 : ∀ (W' : URow) (h' : Heap), W'.length ≤ i + 1 → St (UnW u W' last :: DuW w W' last :: L) h' → waybilllaw18_UnakPlays.j9 K (waybilllaw18_UnakPlays.L2 K fuel) t.1 t.2.1 t.2.2 (some u) (some w) i false h' := fun W' h' hl' S' => by
            unfold waybilllaw18_UnakPlays.j9
            exact ifF rfl (j4 W' last h' hl' (by omega) S')
          have j8 : ∀ (W' : URow) (h' : Heap), W'.length ≤ i → St (Im 1 b (ts.map kkU) :: UnW u W' last :: DuW w W' last :: Bx x6 (cOp8 (kd, tg, mn, hq1, hq2)) :: L) h' → waybilllaw18_UnakPlays.j8 K (waybilllaw18_UnakPlays.L2 K fuel) t.1 t.2.1 t.2.2 (some u) (some w) i x6 b.1 b.2.1 b.2.2 h' := fun W' h' hl' S' => by
            have up' := (UnW.up S'.p1).1
            unfold waybilllaw18_UnakPlays.j8
            refine ⟨_, S'.p3.c 0 rfl, ?_⟩
            by_cases k8 : kd = 8
            · have hin : (inU W' ts).length ≤ W'.length := by unfold inU; rw [List.length_map]; exact List.length_filter_le _ _
              have hout : (outU W' ts).length ≤ W'.length := List.length_filter_le _ _
              refine ifT (by simp [k8]) (takeUnakW (s := b) (ts := ts) S'.p1 (by omega) fun h5 c S6 => ⟨_, _, _, rfl, ?_⟩)
              refine takeU16 (t := b) (ts := ts) S6.p3 (by omega) (by omega) fun h6 d S7 => ⟨_, _, _, rfl, ?_⟩
              have S7 : St (Ow 2 d ((inU W' ts).flatMap hdc) :: Ow 2 c ((inU W' ts).flatMap hdc) :: UnW u (outU W' ts) last :: DuW w (outU W' ts) last :: L) h6 := S7.to
              exact sameHoldsS (by omega) S7.p1.sl S7.sl ⟨_, rfl, j9 (outU W' ts) h6 (by omega) S7.tl.tl⟩
            · exact ifF (by simp [k8]) (j9 W' h' (by omega) (St.to (show St (Im 1 b (ts.map kkU) :: UnW u W' last :: DuW w W' last :: Bx x6 (cOp8 (kd, tg, mn, hq1, hq2)) :: L) h' from S')))
          rw [show (!((findO W tg mn).isSome == (findO W tg mn).isSome)) = false by simp]
          unfold waybilllaw18_UnakPlays.j7
          refine ifF rfl ⟨_, S5.p3.c 0 rfl, ?_⟩
          by_cases k6 : kd = 6
          · refine ifT (by simp [k6]) (markUnakW (s := b) (ts := ts) S5.p1 (by omega) fun h5 S6 => ⟨rfl, ?_⟩)
            refine markU16 (t := b) (ts := ts) S6.p2 hl (by omega) fun h6 S7 => ⟨rfl, ?_⟩
            exact j8 (markU W fun k => decide (k ∈ ts)) h6 (by rw [List.length_map]; exact hW) S7.to
          · exact ifF (by simp [k6]) (j8 W h4 hW S5)
        have j6F : kd ≠ 3 → waybilllaw18_UnakPlays.j6 K (waybilllaw18_UnakPlays.L2 K fuel) t.1 t.2.1 t.2.2 (some u) (some w) i x6 kd false h2 := fun _ => by
          unfold waybilllaw18_UnakPlays.j6
          refine ifF rfl ?_
          unfold bd
          by_cases k7 : kd = 7
          · refine ifT (by simp [k7]) (clearUnakW S.p1 fun h3 S3 => ⟨rfl, ?_⟩)
            refine clearU16 S3.p2 hl fun h4 S4 => ⟨rfl, ?_⟩
            exact j4 (W.map fun x => (x.1, (x.2.1, false))) last h4 (by rw [List.length_map]; omega) (by omega) S4.to
          · refine ifF (by simp [k7]) ?_
            by_cases k9 : kd = 9
            · refine ifT (by simp [k9]) (allUnakW S.p1 (by omega) (by omega) fun h3 c S3 => ⟨_, _, _, rfl, ?_⟩)
              refine allU16 S3.p3 hl fun h4 d S4 => ⟨_, _, _, rfl, ?_⟩
              have S4 : St (Ow 2 d ((W.map fun x => x.2.1).flatMap hdc) :: Ow 2 c ((W.map fun x => x.2.1).flatMap hdc) :: UnW u [] last :: DuW w [] last :: L) h4 := S4.to
              exact sameHoldsS (by rw [List.length_map]; exact hl) S4.p1.sl S4.sl ⟨_, rfl, ifF rfl (j4 [] last h4 (by simp) (by omega) S4.tl.tl)⟩
            · refine ifF (by simp [k9]) ?_
              have rd : ∀ {h3 : Heap} {L3 : List Asr}, St (Bx x6 (cOp8 (kd, tg, mn, hq1, hq2)) :: L3) h3 → rdC h3 (Addr.add x6 3) 0 2 = some (hdc (hq1, hq2)) := fun S3 => (((S3.mem.1.drop 3).take 2).rd rfl)
              have fin : ∀ h3, St (DuW w (W ++ [(last + 1, ((hq1, hq2), false))]) (last + 1) :: UnW u (W ++ [(last + 1, ((hq1, hq2), false))]) (last + 1) :: Bx x6 (cOp8 (kd, tg, mn, hq1, hq2)) :: L) h3 → waybilllaw18_UnakPlays.j10 K (waybilllaw18_UnakPlays.L2 K fuel) t.1 t.2.1 t.2.2 (some u) (some w) i ((last + 1) != (last + 1)) h3 := fun h3 S3 => by
                unfold waybilllaw18_UnakPlays.j10
                exact ifF (bne_self_eq_false _) (j4 (W ++ [(last + 1, ((hq1, hq2), false))]) (last + 1) h3 (by rw [List.length_append, List.length_singleton]; omega) (by omega) S3.to)
              refine ⟨_, rd S, ?_⟩
              with_reducible refine And.intro ?_ ?_
              · refine addUnakW (x := (hq1, hq2)) S.p1 (by omega) fun h3 S3 => ⟨_, rfl, _, rd S3.p1, ?_⟩
                exact addU16 (x := (hq1, hq2)) S3.p2 (by omega) hl fun h4 S4 => ⟨_, rfl, fin h4 S4⟩
              · refine ⟨_, rd S, ?_⟩
                refine addUnakW (x := (hq1, hq2)) S.p1 (by omega) fun h3 S3 => ⟨_, rfl, ?_⟩
                exact addU16 (x := (hq1, hq2)) S3.p2 (by omega) hl fun h4 S4 => ⟨_, rfl, fin h4 S4⟩
        unfold bd
        by_cases k3 : kd = 3
        · refine ifT (by simp [k3]) (tagUnakW S.p1 (by omega) fun h3 S3 => ⟨_, rfl, ?_⟩)
          refine tag16 S3.p2 (by omega) fun h4 S4 => ⟨_, rfl, ifF (bne_self_eq_false _) ?_⟩
          exact j4 W (last + 1) h4 (by omega) (by omega) (St.to S4)
        · refine ifF (by simp [k3]) ?_
          by_cases k4 : kd = 4
          · exact ifT (by simp [k4]) (by rw [show (kd == 4) = true by simp [k4]]; exact j6T)
          · refine ifF (by simp [k4]) ?_
            by_cases k5 : kd = 5
            · exact ifT (by simp [k5]) (by rw [show (kd == 5) = true by simp [k5]]; exact j6T)
            · refine ifF (by simp [k5]) ?_
              by_cases k6 : kd = 6
              · exact ifT (by simp [k6]) (by rw [show (kd == 6) = true by simp [k6]]; exact j6T)
              · refine ifF (by simp [k6]) ?_
                by_cases k8 : kd = 8
                · rw [show (kd == 8) = true by simp [k8]]; exact j6T
                · rw [show (kd == 8) = false by simp [k8]]; exact j6F k3
      · rw [show decide ((i : Int) < 80) = false by simp; omega]
        exact jF
    · exact ifF (by simp [ht]; omega) jF

theorem UnakPlays.law {h : Heap} (s : SV) (xs : List Ar.X_Op18) (sl : Sl 5 h s.1 s.2.1 (xs.flatMap Ar.c_Op18)) (le : s.2.1 ≤ s.2.2) (mx : s.2.2 ≤ maxLen) (wx : ∀ x ∈ xs, Ar.q_Op18 x) :
    CallsH P F.waybilllaw18_UnakPlays [s.v] (fun v h' => v = .bool true ∧ Kept h h') h := by
  refine waybilllaw18_UnakPlays.ok ?_
  unfold waybilllaw18_UnakPlays.p0
  have ls : s.2.1 = xs.length := by have := sl.1; rw [flat_length cOp85] at this; omega
  have S0 : St (Im 5 s (xs.flatMap cOp8) :: [Old h]) h := (St.old h).imOld (List.mem_cons_self ..) sl le
  refine newUnakW S0 fun h1 u S1 => ⟨_, rfl, ?_⟩
  refine St.bd1 (cs := [.slice none 0 0, .int .u64 0]) S1 fun S2 => ifF' rfl ?_
  have S3 : St (DuW (top h1) [] 0 :: UnW u [] 0 :: Im 5 s (xs.flatMap cOp8) :: [Old h]) (al h1 [Value.slice none 0 0, .int .u64 0].toArray T.waybillref16_Unak) := DuW.inn (s := (none, 0, 0)) (S2.imNil 4 0).p1
  refine awake18S S3 fun h3 S4 => ⟨_, rfl, ?_⟩
  unfold waybilllaw18_UnakPlays.j1
  exact ifF rfl ⟨xs.length + 1, up_loop (L := Im 5 s (xs.flatMap cOp8) :: [Old h]) ls wx (fun h' S' => ⟨rfl, S'.keptOld (List.mem_cons_of_mem _ (List.mem_cons_self ..))⟩) _ 0 [] 0 h3 (by omega) (by omega) (by omega) (by simp) (by omega) S4.p1⟩
end
end Go.Proofs.Ytechpnlbkkfplaa.Pr
