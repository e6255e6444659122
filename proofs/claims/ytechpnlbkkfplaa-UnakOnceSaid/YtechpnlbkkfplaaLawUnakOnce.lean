/- UnakOnce: each that was added is taken once, in order, however tags are told. -/
import Derived.Test.YtechpnlbkkfplaaAwake18
import Derived.Test.YtechpnlbkkfplaaLawsD
import Derived.Test.YtechpnlbkkfplaaPrLaw18Unakonce
import Derived.Test.YtechpnlbkkfplaaArHold
set_option linter.unusedVariables false
set_option linter.unusedSimpArgs false
namespace Go.Proofs.Ytechpnlbkkfplaa.Pr
open Go Go.Lift Go.Proofs

theorem sl_bool' : SlT P T.sl_bool T.bool 1 1 [.bool false] := slT (by kernel_rfl) (by kernel_rfl)
abbrev uG : Nat → Int := fun j => (j : Int) + 1
theorem uMono (n : Nat) : Mono n uG := fun i j h _ => by show (i : Int) + 1 < j + 1; omega
theorem uG_eq {i : Nat} : ((i + 1 : Nat) : Int) = uG i := by show ((i + 1 : Nat) : Int) = (i : Int) + 1; omega
abbrev xAt (xs : List Hld) (j : Nat) : Hld := xs.getD j ([], 0)
/-- What is there still. -/
abbrev uoW (n : Nat) (xs : List Hld) (g : Nat → Bool) : URow := rF n (fun j => !g (j + 1)) fun j => (uG j, (xAt xs j, false))
/-- Does a telling mean it? -/
abbrev sel (t : Nat) (all : Bool) (k : Nat) : Bool := decide (k = t) || (all && (decide (t = 0) || decide (k < t)))
abbrev hit (g : Nat → Bool) (t : Nat) (all : Bool) (j : Nat) : Bool := !g (j + 1) && sel t all (j + 1)
abbrev there (n : Nat) (g : Nat → Bool) (t : Nat) : Bool := decide (1 ≤ t) && (decide (t ≤ n) && !g t)

section
variable {K : KT} {L : List Asr} {u : Addr} {n : Nat} {xs : List Hld} {ys : List Int} {ms : List Bool} {s t m : SV}

theorem uo_open (g : Nat → Bool) (t : Nat) : openU (uoW n xs g) t = there n g t := by
  have up : Up (uoW n xs g) := rF_up (uMono n)
  unfold openU there
  by_cases h : 1 ≤ t ∧ t ≤ n ∧ g t = false
  · obtain ⟨h1, h2, h3⟩ := h
    have : get? (uoW n xs g) (t : Int) = some (xAt xs (t - 1), false) := (get?_iff up.nodup).2 (rF_mem.2 ⟨t - 1, by omega, by rw [show t - 1 + 1 = t by omega, h3]; rfl, by rw [← uG_eq, show t - 1 + 1 = t by omega]⟩)
    rw [this]
    simp [h1, h2, h3]
  · have : get? (uoW n xs g) (t : Int) = none := get?_none.2 fun hm => by
      obtain ⟨x, hx, e⟩ := List.mem_map.1 hm
      obtain ⟨j, hj, hp, rfl⟩ := rF_mem.1 hx
      have e : (j : Int) + 1 = t := e
      have : t = j + 1 := by omega
      subst this
      exact h ⟨by omega, by omega, by simpa using hp⟩
    rw [this]
    simp only [Option.any_none]
    cases hg : g t with
    | true => simp
    | false =>
      by_cases h1 : 1 ≤ t
      · by_cases h2 : t ≤ n
        · exact absurd ⟨h1, h2, hg⟩ h
        · simp [h2]
      · simp [h1]
/-- What is found. -/
theorem uo_find (g : Nat → Bool) (t : Nat) (all : Bool) : findO (uoW n xs g) t all = if there n g t || (all && decide (t = 0)) then some (rF n (hit g t all) uG) else none := by
  unfold findO
  rw [uo_open, show ((t : Int) == 0) = decide (t = 0) by rw [Bool.eq_iff_iff]; simp]
  by_cases hc : (there n g t || (all && decide (t = 0))) = true
  · rw [if_pos hc, if_pos hc]
    congr 1
    cases all with
    | true =>
      rw [if_pos rfl]
      unfold findU
      rw [rF_filter, rF_map]
      refine rF_congr (fun j hj => ?_) fun _ _ _ => rfl
      unfold hit sel
      cases g (j + 1) with
      | true => rfl
      | false =>
        have e : uG j = (j : Int) + 1 := rfl
        rw [Bool.eq_iff_iff]
        simp
        omega
    | false =>
      rw [if_neg (by simp)]
      simp only [Bool.false_and, Bool.or_false] at hc
      unfold there at hc
      simp only [Bool.and_eq_true, decide_eq_true_eq, Bool.not_eq_true'] at hc
      obtain ⟨h1, h2, h3⟩ := hc
      have e : rF n (hit g t false) uG = [uG (t - 1)] := by
        have hlen : cnt n (hit g t false) = 1 := by
          have : ∀ k, k ≤ n → cnt k (hit g t false) = if t ≤ k then 1 else 0 := by
            intro k
            induction k with
            | zero => intro _; rw [if_neg (by omega)]; rfl
            | succ k ih =>
              intro hk
              rw [cnt_succ, ih (by omega)]
              by_cases e : k + 1 = t
              · rw [if_neg (by omega), if_pos (by unfold hit sel; rw [e, h3]; simp), if_pos (by omega)]
              · rw [if_neg (c := hit g t false k = true) (by unfold hit sel; simp [e])]
                by_cases h4 : t ≤ k
                · rw [if_pos h4, if_pos (by omega)]
                · rw [if_neg h4, if_neg (by omega)]
          rw [this n (Nat.le_refl _), if_pos h2]
        have hmem := rF_get (n := n) (i := t - 1) (by omega) (p := hit g t false) (by unfold hit sel; rw [show t - 1 + 1 = t by omega, h3]; simp) uG
        have hl := rF_len n (hit g t false) uG
        rw [hlen] at hl
        obtain ⟨y, hy⟩ := List.length_eq_one_iff.1 hl
        rw [hy] at hmem ⊢
        have hlt := (List.getElem?_eq_some_iff.1 hmem).1
        have : cnt (t - 1) (hit g t false) = 0 := by simpa using hlt
        rw [this] at hmem
        simpa using hmem
      rw [e, ← uG_eq, show t - 1 + 1 = t by omega]
  · rw [if_neg hc, if_neg hc]
theorem uo_inS {q : Nat → Bool} {j : Nat} (hj : j < n) : decide (uG j ∈ rF n q uG) = q j := by
  rw [Bool.eq_iff_iff]
  simp only [decide_eq_true_eq, rF_mem]
  constructor
  · rintro ⟨i, hi, hq, e⟩
    have e : (j : Int) + 1 = i + 1 := e
    have : j = i := by omega
    rw [this]; exact hq
  · exact fun h => ⟨j, hj, h, rfl⟩
theorem uo_in (g : Nat → Bool) (t : Nat) (all : Bool) : inU (uoW n xs g) (rF n (hit g t all) uG) = rF n (hit g t all) (xAt xs) := by
  unfold inU
  rw [rF_filter, rF_map]
  refine rF_congr (fun j hj => ?_) fun _ _ _ => rfl
  rw [uo_inS hj]
  unfold hit
  cases g (j + 1) <;> rfl
abbrev gone' (g : Nat → Bool) (t : Nat) (all : Bool) : Nat → Bool := fun k => g k || (decide (1 ≤ k) && sel t all k)
theorem uo_out (g : Nat → Bool) (t : Nat) (all : Bool) : outU (uoW n xs g) (rF n (hit g t all) uG) = uoW n xs (gone' g t all) := by
  unfold outU
  rw [rF_filter]
  refine rF_congr (fun j hj => ?_) fun _ _ _ => rfl
  rw [uo_inS hj]
  unfold hit gone'
  cases g (j + 1) <;> simp
theorem uo_in0 (g : Nat → Bool) : inU (uoW n xs g) [] = [] := by unfold inU; simp
theorem uo_out0 (g : Nat → Bool) : outU (uoW n xs g) [] = uoW n xs g := by unfold outU; simp

theorem uo_end {g : Nat → Bool} (hn : n ≤ 40) {fl : SV} (hK : ∀ h', St L h' → K (.bool true) h') : ∀ (fuel i : Nat) (h : Heap), n - i < fuel → i ≤ n → St (UnW u (uoW n xs g) n :: Ow 1 fl (flags (n + 1) g) :: L) h →
    waybilllaw18_UnakOnce.L5 K fuel (some u) n fl.1 fl.2.1 fl.2.2 ((cnt i fun j => !g (j + 1) : Nat) : Int) ((i + 1 : Nat) : Int) h
  | 0, _, _, hf', _, _ => absurd hf' (Nat.not_lt_zero _)
  | fuel + 1, i, h, hf', hi, S => by
    unfold waybilllaw18_UnakOnce.L5
    by_cases hlt : i < n
    · have next : ∀ c : Nat, c = cnt (i + 1) (fun j => !g (j + 1)) → waybilllaw18_UnakOnce.j6 K (waybilllaw18_UnakOnce.L5 K fuel) (some u) n fl.1 fl.2.1 fl.2.2 c ((i + 1 : Nat) : Int) h := fun c ec => by
        unfold waybilllaw18_UnakOnce.j6
        unfold bd
        rw [show IntKind.i64.wrap (((i + 1 : Nat) : Int) + 1) = ((i + 1 + 1 : Nat) : Int) from wrapS (by omega) (by omega), ec]
        exact uo_end hn hK fuel (i + 1) h (by omega) (by omega) S
      have hc := cnt_le i fun j => !g (j + 1)
      have cs := cnt_succ i fun j => !g (j + 1)
      refine ifT (by simp; omega) (ixV (n := i + 1) (w := .bool (g (i + 1))) S.p1.sl rfl (rowF_get _ (by omega)) fun p ep cp => ⟨_, cp, ?_⟩)
      cases hg : g (i + 1) with
      | false =>
        refine ifT rfl ?_
        unfold bd
        rw [wrapS (n := (cnt i fun j => !g (j + 1)) + 1) (by omega) (by omega)]
        exact next _ (by rw [cs, hg]; rfl)
      | true => exact ifF rfl (next _ (by rw [cs, hg]; rfl))
    · have : i = n := by omega
      subst this
      refine ifF (by simp; omega) ?_
      unfold waybilllaw18_UnakOnce.j4
      have hc := cnt_le i fun j => !g (j + 1)
      refine lenUnakW S fun h1 S1 => ⟨_, rfl, ifT (by rw [rF_len]; simp) ?_⟩
      refine allUnakW S1 (by rw [rF_len]; omega) (by omega) fun h2 o S2 => ⟨_, _, _, rfl, ?_⟩
      have eo : o.2.1 = cnt i fun j => !g (j + 1) := by
        have := S2.ow.1
        rw [hdc_len2, List.length_map, rF_len] at this
        omega
      refine ifT (by rw [eo]; simp) (lenUnakW S2.p1 fun h3 S3 => ⟨_, rfl, ?_⟩)
      exact hK h3 S3.tl.tl.tl

abbrev UOL (s t m : SV) (xs : List Hld) (ys : List Int) (ms : List Bool) (L : List Asr) : List Asr := Im 2 s (xs.flatMap hdc) :: Im 1 t (ys.map kkU) :: Im 1 m (ms.map fun b => .bool b) :: L

theorem im2 {sz : Nat} {s : SV} {vs : List Value} {L : List Asr} {h : Heap} (S : St L h) (m : Im sz s vs ∈ L) : Sl sz h s.1 s.2.1 vs := (S.iml m).1

/-- Each that the telling means is taken, in order. -/
theorem uo_look {g : Nat → Bool} {tg : Nat} {all : Bool} {i0 : Nat} {fl got o : SV} (hx : n ≤ xs.length) (hn : n ≤ 40) (R : OA → Nat → Nat → OA → Nat → Nat → OA → Nat → Nat → OA → Int → OA → Nat → Nat → Int → Heap → Prop)
    (lg : got.2.1 = cnt n (hit g tg all)) (lo : o.2.1 = cnt n (hit g tg all)) (ht : tg ≤ n + 1)
    (hK : ∀ h', St (UnW u (uoW n xs (gone' g tg all)) n :: Ow 1 fl (flags (n + 1) (gone' g tg all)) :: UOL s t m xs ys ms L) h' → waybilllaw18_UnakOnce.j13 K R s.1 s.2.1 s.2.2 t.1 t.2.1 t.2.2 m.1 m.2.1 m.2.2 (some u) n fl.1 fl.2.1 fl.2.2 i0 false h') :
    ∀ (fuel i : Nat) (h : Heap), n - i < fuel → i ≤ n → St (UnW u (uoW n xs (gone' g tg all)) n :: Ow 1 fl (flags (n + 1) fun k => if k ≤ i then gone' g tg all k else g k) :: Ow 2 o ((rF n (hit g tg all) (xAt xs)).flatMap hdc) :: Im 1 got ((rF n (hit g tg all) uG).map kkU) :: UOL s t m xs ys ms L) h →
      waybilllaw18_UnakOnce.L14 K R fuel s.1 s.2.1 s.2.2 t.1 t.2.1 t.2.2 m.1 m.2.1 m.2.2 (some u) n fl.1 fl.2.1 fl.2.2 i0 tg all got.1 got.2.1 got.2.2 true o.1 o.2.1 o.2.2 ((cnt i (hit g tg all) : Nat) : Int) ((i + 1 : Nat) : Int) h
  | 0, _, _, hf', _, _ => absurd hf' (Nat.not_lt_zero _)
  | fuel + 1, i, h, hf', hi, S => by
    unfold waybilllaw18_UnakOnce.L14
    have hc := cnt_le i (hit g tg all)
    by_cases hlt : i < n
    · have cs := cnt_succ i (hit g tg all)
      have j16 : ∀ (c : Nat) (h' : Heap), c = cnt (i + 1) (hit g tg all) → St (UnW u (uoW n xs (gone' g tg all)) n :: Ow 1 fl (flags (n + 1) fun k => if k ≤ i + 1 then gone' g tg all k else g k) :: Ow 2 o ((rF n (hit g tg all) (xAt xs)).flatMap hdc) :: Im 1 got ((rF n (hit g tg all) uG).map kkU) :: UOL s t m xs ys ms L) h' →
          waybilllaw18_UnakOnce.j16 K R (waybilllaw18_UnakOnce.L14 K R fuel) s.1 s.2.1 s.2.2 t.1 t.2.1 t.2.2 m.1 m.2.1 m.2.2 (some u) n fl.1 fl.2.1 fl.2.2 i0 tg all got.1 got.2.1 got.2.2 true o.1 o.2.1 o.2.2 c ((i + 1 : Nat) : Int) h' := fun c h' ec S' => by
        unfold waybilllaw18_UnakOnce.j16
        unfold bd
        rw [show IntKind.i64.wrap (((i + 1 : Nat) : Int) + 1) = ((i + 1 + 1 : Nat) : Int) from wrapS (by omega) (by omega), ec]
        exact uo_look hx hn R lg lo ht hK fuel (i + 1) h' (by omega) (by omega) S'
      have same : hit g tg all i = false → (flags (n + 1) fun k => if k ≤ i + 1 then gone' g tg all k else g k) = flags (n + 1) fun k => if k ≤ i then gone' g tg all k else g k := fun hh => flags_congr fun k _ => by
        by_cases h1 : k ≤ i
        · rw [if_pos h1, if_pos (by omega)]
        · by_cases h2 : k = i + 1
          · subst h2
            rw [if_pos (Nat.le_refl _), if_neg h1]
            unfold gone'
            unfold hit at hh
            cases hg : g (i + 1) with
            | true => rfl
            | false => rw [hg] at hh; simpa using hh
          · rw [if_neg (by omega), if_neg h1]
      have j17 : ∀ b : Bool, b = !hit g tg all i → waybilllaw18_UnakOnce.j17 K R (waybilllaw18_UnakOnce.L14 K R fuel) s.1 s.2.1 s.2.2 t.1 t.2.1 t.2.2 m.1 m.2.1 m.2.2 (some u) n fl.1 fl.2.1 fl.2.2 i0 tg all got.1 got.2.1 got.2.2 true o.1 o.2.1 o.2.2 ((cnt i (hit g tg all) : Nat) : Int) ((i + 1 : Nat) : Int) b h := fun b eb => by
        unfold waybilllaw18_UnakOnce.j17
        cases hh : hit g tg all i with
        | false =>
          rw [hh] at eb cs
          subst eb
          exact ifT rfl (j16 _ h (by rw [cs]; rfl) (by rw [same hh]; exact S))
        | true =>
          rw [hh] at eb cs
          subst eb
          have hm := cnt_mono (show i + 1 ≤ n by omega) (hit g tg all)
          rw [cs, if_pos rfl] at hm
          refine ifF rfl (ifF' (by simp; omega) (ifF' (by simp; omega) ?_))
          have gx := rF_get hlt hh (xAt xs)
          have gu := rF_get hlt hh uG
          obtain ⟨p, ep, p0, p1, pc⟩ := ixF hdc2 (by decide) S.p2.sl (i := ((cnt i (hit g tg all) : Nat) : Int)) rfl gx
          rw [show IntKind.i64.wrap (((i + 1 : Nat) : Int) - 1) = ((i : Nat) : Int) from wrapS (by omega) (by omega)]
          have hxi : xs[i]? = some (xAt xs i) := by unfold xAt; rw [List.getD_eq_getElem?_getD, List.getElem?_eq_getElem (show i < xs.length by omega)]; rfl
          have sx : Sl 2 h s.1 s.2.1 (xs.flatMap hdc) := im2 S (by simp)
          refine ⟨p, ep, p0, p1, ?_⟩
          obtain ⟨q, eq, q0, q1, cs2, rd2, e2⟩ := ixS hdc2 (by decide) sx (i := ((i : Nat) : Int)) rfl hxi (R := fun cs => cs = hdc (xAt xs i)) rfl
          obtain ⟨p', ep', p0', p1', cs3, rd3, e3⟩ := ixS hdc2 (by decide) S.p2.sl (i := ((cnt i (hit g tg all) : Nat) : Int)) rfl gx (R := fun cs => cs = hdc (xAt xs i)) rfl
          rw [ep] at ep'
          cases ep'
          refine ⟨q, eq, q0, q1, cs3, rd3, cs2, rd2, ?_⟩
          rw [e2, e3]
          refine hldNeqS (a := xAt xs i) (b := xAt xs i) _ _ ⟨_, rfl, ifF' (by simp) ?_⟩
          refine ixV (n := cnt i (hit g tg all)) (w := .int .u64 (uG i)) (im2 S (by simp : Im 1 got ((rF n (hit g tg all) uG).map kkU) ∈ _)) rfl (by rw [List.getElem?_map, gu]; rfl) fun p5 ep5 cp5 => ⟨_, cp5, ?_⟩
          rw [wrapU (by omega), ← uG_eq, show (((i + 1 : Nat) : Int) != ((i + 1 : Nat) : Int)) = false by simp]
          unfold waybilllaw18_UnakOnce.j18
          refine ifF rfl (St.owSet (n := i + 1) S.p1 rfl (by rw [rowF_len]; omega) rfl fun h2 S2 => ?_)
          unfold bd
          rw [show IntKind.i64.wrap (((cnt i (hit g tg all) : Nat) : Int) + 1) = ((cnt i (hit g tg all) + 1 : Nat) : Int) from wrapS (by omega) (by omega)]
          refine j16 _ h2 (by rw [cs]; rfl) ?_
          rw [flags_set _ (by omega)] at S2
          rw [show (flags (n + 1) fun k => if k ≤ i + 1 then gone' g tg all k else g k) = flags (n + 1) fun k => if k = i + 1 then true else if k ≤ i then gone' g tg all k else g k from flags_congr fun k _ => by
            by_cases h2 : k = i + 1
            · subst h2
              rw [if_pos (Nat.le_refl _), if_pos rfl]
              unfold gone'
              unfold hit at hh
              simp only [Bool.and_eq_true] at hh
              rw [hh.2]; simp
            · rw [if_neg h2]
              by_cases h1 : k ≤ i
              · rw [if_pos h1, if_pos (by omega)]
              · rw [if_neg h1, if_neg (by omega)]]
          exact S2.p1
      refine ifT (by simp; omega) ?_
      unfold waybilllaw18_UnakOnce.j15
      refine ifT rfl (ixV (n := i + 1) (w := .bool (g (i + 1))) S.p1.sl rfl (by rw [rowF_get _ (by omega)]; show some (Value.bool (if i + 1 ≤ i then _ else _)) = _; rw [if_neg (by omega)]) fun p ep cp => ⟨_, cp, ?_⟩)
      rw [wrapU (by omega)]
      cases hg : g (i + 1) with
      | true => exact ifT' rfl (j17 true (by unfold hit; rw [hg]; rfl))
      | false =>
        refine ifF' rfl ?_
        by_cases e : i + 1 = tg
        · exact ifF (by simp; omega) (j17 false (by unfold hit sel; rw [hg, e]; simp))
        · refine ifT (by simp; omega) ?_
          cases all with
          | false => exact ifF rfl (j17 true (by unfold hit sel; simp [e]))
          | true =>
            refine ifT rfl ?_
            by_cases h0 : tg = 0
            · exact ifT' (by simp [h0]) (j17 false (by unfold hit sel; rw [hg]; simp [h0]))
            · refine ifF' (by simp; omega) (j17 _ ?_)
              unfold hit sel
              rw [hg]
              congr 1
              rw [Bool.eq_iff_iff]
              simp
              omega
    · have : i = n := by omega
      subst this
      refine ifF (by simp; omega) ?_
      unfold waybilllaw18_UnakOnce.j15
      refine ifF rfl ?_
      unfold waybilllaw18_UnakOnce.j12
      refine ifF' (by rw [lo]; exact bne_self_eq_false _) ?_
      rw [lg, show (((cnt i (hit g tg all) : Nat) : Int) != ((cnt i (hit g tg all) : Nat) : Int)) = false from bne_self_eq_false _]
      refine hK h ?_
      rw [show (flags (i + 1) fun k => if k ≤ i then gone' g tg all k else g k) = flags (i + 1) (gone' g tg all) from flags_congr fun k hk => by rw [if_pos (by omega)]] at S
      exact S.p2.tl.p2.tl

theorem uo_tags (hx : n ≤ xs.length) (hn : n ≤ 40) (ht : t.2.1 = ys.length) (hm : m.2.1 = ms.length) (hw : ∀ x ∈ ys, 0 ≤ x ∧ x < 18446744073709551616) {fl : SV} (hK : ∀ h', St L h' → K (.bool true) h') :
    ∀ (fuel i : Nat) (g : Nat → Bool) (h : Heap), ys.length - i < fuel → i ≤ ys.length → St (UnW u (uoW n xs g) n :: Ow 1 fl (flags (n + 1) g) :: UOL s t m xs ys ms L) h →
      waybilllaw18_UnakOnce.L7 K fuel s.1 s.2.1 s.2.2 t.1 t.2.1 t.2.2 m.1 m.2.1 m.2.2 (some u) n fl.1 fl.2.1 fl.2.2 i h
  | 0, _, _, _, hf', _, _ => absurd hf' (Nat.not_lt_zero _)
  | fuel + 1, i, g, h, hf', hi, S => by
    unfold waybilllaw18_UnakOnce.L7
    have jF : waybilllaw18_UnakOnce.j8 K (waybilllaw18_UnakOnce.L7 K fuel) s.1 s.2.1 s.2.2 t.1 t.2.1 t.2.2 m.1 m.2.1 m.2.2 (some u) n fl.1 fl.2.1 fl.2.2 i false h := by
      unfold waybilllaw18_UnakOnce.j8
      refine ifF rfl ?_
      unfold waybilllaw18_UnakOnce.j3
      exact ⟨n + 1, uo_end hn (fun h' S' => hK h' S'.tl.tl.tl) _ 0 h (by omega) (by omega) S⟩
    by_cases hlt : i < ys.length
    · refine ifT (by simp [ht]; omega) ?_
      by_cases h4 : i < 40
      · rw [show decide ((i : Int) < 40) = true by simp; omega]
        unfold waybilllaw18_UnakOnce.j8
        refine ifT rfl (ixV (n := i) (w := .int .u64 ys[i]) (im2 S (by simp : Im 1 t (ys.map kkU) ∈ _)) rfl (by simp [hlt]) fun p ep cp => ⟨ys[i], cp, ?_⟩)
        have e2 : IntKind.u64.wrap (IntKind.i64.wrap ((n : Int) + 2)) = ((n + 2 : Nat) : Int) := by rw [wrapS (n := n + 2) (by omega) (by omega), wrapU (by omega)]
        rw [e2]
        refine ⟨by omega, ?_⟩
        obtain ⟨tg, hj, ej⟩ := tmodN (a := ys[i]) (n := n + 2) (hw _ (List.getElem_mem hlt)).1 (by omega)
        rw [ej]
        unfold bd
        have next : ∀ (g' : Nat → Bool) (h' : Heap), St (UnW u (uoW n xs g') n :: Ow 1 fl (flags (n + 1) g') :: UOL s t m xs ys ms L) h' → waybilllaw18_UnakOnce.j13 K (waybilllaw18_UnakOnce.L7 K fuel) s.1 s.2.1 s.2.2 t.1 t.2.1 t.2.2 m.1 m.2.1 m.2.2 (some u) n fl.1 fl.2.1 fl.2.2 i false h' := fun g' h' S' => by
          unfold waybilllaw18_UnakOnce.j13
          refine ifF rfl ?_
          unfold bd
          rw [show IntKind.i64.wrap ((i : Int) + 1) = ((i + 1 : Nat) : Int) from wrapS (by omega) (by omega)]
          exact uo_tags hx hn ht hm hw hK fuel (i + 1) g' h' (by omega) (by omega) S'
        have j9 : ∀ all : Bool, waybilllaw18_UnakOnce.j9 K (waybilllaw18_UnakOnce.L7 K fuel) s.1 s.2.1 s.2.2 t.1 t.2.1 t.2.2 m.1 m.2.1 m.2.2 (some u) n fl.1 fl.2.1 fl.2.2 i tg all h := fun all => by
          unfold waybilllaw18_UnakOnce.j9
          refine findUnakW S (by rw [rF_len]; have := cnt_le n fun j => !g (j + 1); omega) (by omega) fun h1 q S1 => ⟨q.1, q.2.1, q.2.2, _, rfl, ?_⟩
          rw [uo_find] at S1 ⊢
          have lq0 := S1.ow.1
          have S2 : St (UnW u (uoW n xs g) n :: Im 1 q ((((if there n g tg || (all && decide (tg = 0)) then some (rF n (hit g tg all) uG) else none).getD []).map kkU)) :: Ow 1 fl (flags (n + 1) g) :: UOL s t m xs ys ms L) h1 := S1.im.p1
          have j11 : ∀ b : Bool, b = !((if there n g tg || (all && decide (tg = 0)) then some (rF n (hit g tg all) uG) else none).isSome == (there n g tg || (all && decide (tg = 0)))) →
              waybilllaw18_UnakOnce.j11 K (waybilllaw18_UnakOnce.L7 K fuel) s.1 s.2.1 s.2.2 t.1 t.2.1 t.2.2 m.1 m.2.1 m.2.2 (some u) n fl.1 fl.2.1 fl.2.2 i tg all q.1 q.2.1 q.2.2 (if there n g tg || (all && decide (tg = 0)) then some (rF n (hit g tg all) uG) else none).isSome b h1 := fun b eb => by
            unfold waybilllaw18_UnakOnce.j11
            cases hc : (there n g tg || (all && decide (tg = 0))) with
            | true =>
              rw [hc] at eb S2 lq0
              rw [if_pos rfl] at eb S2 lq0 ⊢
              simp only [Option.getD_some, Option.isSome_some] at S2 eb lq0 ⊢
              refine ifF (by rw [eb]; rfl) (takeUnakW (L := Im 1 q ((rF n (hit g tg all) uG).map kkU) :: Ow 1 fl (flags (n + 1) g) :: UOL s t m xs ys ms L) (s := q) (ts := rF n (hit g tg all) uG) S2 (by rw [rF_len]; have := cnt_le n (hit g tg all); omega) fun h2 o S3 => ⟨_, _, _, rfl, n + 1, ?_⟩)
              rw [uo_in, uo_out] at S3
              have lg : q.2.1 = cnt n (hit g tg all) := by rw [List.length_map, rF_len] at lq0; omega
              have lo : o.2.1 = cnt n (hit g tg all) := by have := S3.ow.1; rw [hdc_len2, rF_len] at this; omega
              refine uo_look (s := s) (t := t) (m := m) (ys := ys) (ms := ms) (L := L) (g := g) (fl := fl) (got := q) (o := o) hx hn _ lg lo (by omega) (fun h' S' => next _ h' S') _ 0 h2 (by omega) (by omega) ?_
              rw [show (flags (n + 1) fun k => if k ≤ 0 then gone' g tg all k else g k) = flags (n + 1) g from flags_congr fun k _ => by
                by_cases h0 : k ≤ 0
                · have : k = 0 := by omega
                  subst this
                  rw [if_pos h0]; unfold gone'; simp
                · rw [if_neg h0]]
              exact S3.p3.p2
            | false =>
              rw [hc] at eb S2 lq0
              rw [if_neg (by simp)] at eb S2 lq0 ⊢
              simp only [Option.getD_none, Option.isSome_none, List.map_nil] at S2 eb lq0 ⊢
              refine ifF (by rw [eb]; rfl) (takeUnakW (L := Im 1 q [] :: Ow 1 fl (flags (n + 1) g) :: UOL s t m xs ys ms L) (s := q) (ts := []) S2 (by simp) fun h2 o S3 => ⟨_, _, _, rfl, 1, ?_⟩)
              rw [uo_in0, uo_out0] at S3
              have lg : q.2.1 = 0 := by simp at lq0; omega
              have lo : o.2.1 = 0 := by have := S3.ow.1; simp at this; omega
              unfold waybilllaw18_UnakOnce.L14
              have j15 : waybilllaw18_UnakOnce.j15 K (waybilllaw18_UnakOnce.L7 K fuel) (waybilllaw18_UnakOnce.L14 K (waybilllaw18_UnakOnce.L7 K fuel) 0) s.1 s.2.1 s.2.2 t.1 t.2.1 t.2.2 m.1 m.2.1 m.2.2 (some u) n fl.1 fl.2.1 fl.2.2 i tg all q.1 q.2.1 q.2.2 false o.1 o.2.1 o.2.2 0 1 false h2 := by
                unfold waybilllaw18_UnakOnce.j15
                refine ifF rfl ?_
                unfold waybilllaw18_UnakOnce.j12
                refine ifF' (by rw [lo]; rfl) ?_
                rw [lg]
                exact next g h2 S3.tl.p1.tl
              by_cases h1n : 1 ≤ n
              · exact ifT (by simp; omega) j15
              · exact ifF (by simp; omega) j15
          have j10 : ∀ b : Bool, b = there n g tg → waybilllaw18_UnakOnce.j10 K (waybilllaw18_UnakOnce.L7 K fuel) s.1 s.2.1 s.2.2 t.1 t.2.1 t.2.2 m.1 m.2.1 m.2.2 (some u) n fl.1 fl.2.1 fl.2.2 i tg all q.1 q.2.1 q.2.2 (if there n g tg || (all && decide (tg = 0)) then some (rF n (hit g tg all) uG) else none).isSome b h1 := fun b eb => by
            unfold waybilllaw18_UnakOnce.j10
            have e0 : ((tg : Int) == 0) = decide (tg = 0) := by rw [Bool.eq_iff_iff]; simp
            cases hb : there n g tg with
            | true =>
              rw [hb] at eb j11
              subst eb
              exact ifT' rfl (j11 _ (by simp))
            | false =>
              rw [hb] at eb j11
              subst eb
              refine ifF' rfl ?_
              cases all with
              | true => exact ifT rfl (by rw [e0]; exact j11 _ (by simp))
              | false => exact ifF rfl (j11 _ (by simp))
          by_cases h1 : 1 ≤ tg
          · refine ifT (by simp; omega) ?_
            rw [show IntKind.i64.wrap (tg : Int) = ((tg : Nat) : Int) from wrapS rfl (by omega)]
            by_cases h2 : tg ≤ n
            · refine ifT (by simp; omega) (ixV (n := tg) (w := .bool (g tg)) S2.p2.sl rfl (rowF_get _ (by omega)) fun p ep cp => ⟨_, cp, ?_⟩)
              unfold bd
              exact j10 _ (by unfold there; simp [h1, h2])
            · exact ifF (by simp; omega) (j10 _ (by unfold there; simp [h2]))
          · exact ifF (by simp; omega) (j10 _ (by unfold there; simp [h1]))
        by_cases hm2 : i < ms.length
        · exact ifT (by simp [hm]; omega) (ixV (n := i) (w := .bool ms[i]) (im2 S (by simp : Im 1 m (ms.map fun b => .bool b) ∈ _)) rfl (by simp [hm2]) fun p ep cp => ⟨_, cp, j9 _⟩)
        · exact ifF (by simp [hm]; omega) (j9 _)
      · rw [show decide ((i : Int) < 40) = false by simp; omega]
        exact jF
    · exact ifF (by simp [ht]; omega) jF

theorem uo_add (hs : s.2.1 = xs.length) (ht : t.2.1 = ys.length) (hm : m.2.1 = ms.length) (hw : ∀ x ∈ ys, 0 ≤ x ∧ x < 18446744073709551616) (hK : ∀ h', St L h' → K (.bool true) h') :
    ∀ (fuel i : Nat) (h : Heap), xs.length - i < fuel → i ≤ xs.length → i ≤ 40 → St (UnW u (uoW i xs fun _ => false) i :: UOL s t m xs ys ms L) h → waybilllaw18_UnakOnce.L19 K fuel s.1 s.2.1 s.2.2 t.1 t.2.1 t.2.2 m.1 m.2.1 m.2.2 (some u) i i h
  | 0, _, _, hf', _, _, _ => absurd hf' (Nat.not_lt_zero _)
  | fuel + 1, i, h, hf', hi, h40, S => by
    unfold waybilllaw18_UnakOnce.L19
    have jF : waybilllaw18_UnakOnce.j20 K (waybilllaw18_UnakOnce.L19 K fuel) s.1 s.2.1 s.2.2 t.1 t.2.1 t.2.2 m.1 m.2.1 m.2.2 (some u) i i false h := by
      unfold waybilllaw18_UnakOnce.j20
      refine ifF rfl ?_
      unfold waybilllaw18_UnakOnce.j2
      rw [show IntKind.i64.wrap ((i : Int) + 1) = ((i + 1 : Nat) : Int) from wrapS (by omega) (by omega)]
      refine S.make1 sl_bool' rfl (by omega) (by omega) fun h1 S1 => ⟨_, _, _, rfl, ys.length + 1, ?_⟩
      rw [← flags_new] at S1
      exact uo_tags (fl := (some (top h), i + 1, i + 1)) hi (by omega) ht hm hw hK _ 0 _ h1 (by omega) (by omega) S1.p1
    by_cases hlt : i < xs.length
    · refine ifT (by simp [hs]; omega) ?_
      by_cases h4 : i < 40
      · rw [show decide ((i : Int) < 40) = true by simp; omega]
        unfold waybilllaw18_UnakOnce.j20
        have sx : Sl 2 h s.1 s.2.1 (xs.flatMap hdc) := im2 S (by simp)
        have hxi : xs[i]? = some (xAt xs i) := by unfold xAt; rw [List.getD_eq_getElem?_getD, List.getElem?_eq_getElem hlt]; rfl
        refine ifT rfl (ixS hdc2 (by decide) sx rfl hxi ?_)
        refine addUnakW (x := xAt xs i) S (by omega) fun h1 S1 => ⟨_, rfl, ?_⟩
        rw [show IntKind.u64.wrap (IntKind.i64.wrap ((i : Int) + 1)) = (i : Int) + 1 by rw [wrapS (n := i + 1) (by omega) (by omega), wrapU (by omega)]; omega]
        refine ifF (bne_self_eq_false _) ?_
        unfold bd
        rw [show IntKind.i64.wrap ((i : Int) + 1) = ((i + 1 : Nat) : Int) from wrapS (by omega) (by omega)]
        refine uo_add hs ht hm hw hK fuel (i + 1) h1 (by omega) (by omega) (by omega) ?_
        rw [show uoW (i + 1) xs (fun _ => false) = uoW i xs (fun _ => false) ++ [((i : Int) + 1, (xAt xs i, false))] from rF_succ i _ _, show ((i + 1 : Nat) : Int) = (i : Int) + 1 by omega]
        exact S1
      · rw [show decide ((i : Int) < 40) = false by simp; omega]
        exact jF
    · exact ifF (by simp [hs]; omega) jF

theorem UnakOnce.law {h : Heap} (s : SV) (xs : List Hld) (sl : Sl 2 h s.1 s.2.1 (xs.flatMap hdc)) (le : s.2.1 ≤ s.2.2) (mx : s.2.2 ≤ maxLen) (wx : ∀ x ∈ xs, Ar.q_Hold x)
    (t : SV) (ys : List Int) (tl : Sl 1 h t.1 t.2.1 (ys.map fun n => .int .u64 n)) (te : t.2.1 ≤ t.2.2) (my : t.2.2 ≤ maxLen) (wy : ∀ y ∈ ys, (Lit.int .u64 y).wf = true)
    (m : SV) (ms : List Bool) (ml : Sl 1 h m.1 m.2.1 (ms.map fun b => .bool b)) (me : m.2.1 ≤ m.2.2) (mm : m.2.2 ≤ maxLen) (wm : ∀ b ∈ ms, True) :
    CallsH P F.waybilllaw18_UnakOnce [s.v, t.v, m.v] (fun v h' => v = .bool true ∧ Kept h h') h := by
  refine waybilllaw18_UnakOnce.ok ?_
  unfold waybilllaw18_UnakOnce.p0
  have ls : s.2.1 = xs.length := by have := sl.1; rw [hdc_len2] at this; omega
  have lt : t.2.1 = ys.length := by have := tl.1; simpa using this.symm
  have lm : m.2.1 = ms.length := by have := ml.1; simpa using this.symm
  have S0 : St (UOL s t m xs ys ms [Old h]) h := (((St.old h).imOld (List.mem_cons_self ..) ml me).imOld (List.mem_cons_of_mem _ (List.mem_cons_self ..)) tl te).imOld (List.mem_cons_of_mem _ (List.mem_cons_of_mem _ (List.mem_cons_self ..))) sl le
  refine newUnakW S0 fun h1 u S1 => ⟨_, rfl, ifF' rfl (awake18S S1 fun h2 S2 => ⟨_, rfl, ?_⟩)⟩
  unfold waybilllaw18_UnakOnce.j1
  exact ifF rfl ⟨xs.length + 1, uo_add (L := [Old h]) ls lt lm (fun x hx => wf_u64 (wy x hx)) (fun h' S' => ⟨rfl, S'.keptOld (List.mem_cons_self ..)⟩) _ 0 h2 (by omega) (by omega) (by omega) S2⟩
end
end Go.Proofs.Ytechpnlbkkfplaa.Pr
