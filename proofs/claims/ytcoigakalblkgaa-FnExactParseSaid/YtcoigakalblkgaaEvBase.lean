/- What the pure proofs share: short names, whole numbers in range, memory. -/
import Derived.Test.YtcoigakalblkgaaEvSim2
set_option linter.all false
namespace Go.Ev

abbrev I (n : Int) : X := .d (.v (.int .i64 n))
abbrev B (n : Bool) : X := .d (.v (.bool n))
abbrev Str (n : ByteArray) : X := .d (.v (.string n))
abbrev DI (n : Int) : D := .v (.int .i64 n)
abbrev DB (n : Bool) : D := .v (.bool n)
abbrev DS (n : ByteArray) : D := .v (.string n)

/-- What a function hands back out of its last state: with memory; alone. -/
def fini (res : List SRes) (fr : Nat) : Ex × St → Option (X × Heap)
  | (.ext _, _) => none
  | (.nor, s) => (rdRes s res).bind (finiK s fr)
  | (.ret, s) => (rdRes s res).bind (finiK s fr)
def finX (res : List SRes) : Ex × St → Option X
  | (.ext _, _) => none
  | (.nor, s) => (rdRes s res).bind (finXK s)
  | (.ret, s) => (rdRes s res).bind (finXK s)
theorem call_of {Φ : Nat → Option SFn} {f np nt : Nat} {code : SCode} {res : List SRes} (h : Φ f = some ⟨np, nt, code, res⟩) (args : List X) (hl : args.length = np) : call Φ f args = (evW Φ code { env := initE 0 args, heap := emp, fr := 0, next := 0 }).bind (finX res) := by
  unfold call
  rw [evCW_eq, h]
  simp only [Option.bind_some, hl, if_true]
  cases evW Φ code { env := initE 0 args, heap := emp, fr := 0, next := 0 } with
  | none => rfl
  | some r =>
    obtain ⟨e, s⟩ := r
    cases e <;> simp only [Option.bind_some, back, finX, Option.map_none]
    · cases rdRes s res with
      | none => rfl
      | some xs => simp only [Option.bind_some, finXK]; cases fins 0 s.heap xs <;> rfl
    · cases rdRes s res with
      | none => rfl
      | some xs => simp only [Option.bind_some, finXK]; cases fins 0 s.heap xs <;> rfl
theorem evCW_of {Φ : Nat → Option SFn} {f np nt : Nat} {code : SCode} {res : List SRes} (h : Φ f = some ⟨np, nt, code, res⟩) (args : List X) (m : Heap) (fr : Nat) (hl : args.length = np) : evCW Φ f args m fr = (evW Φ code { env := initE 0 args, heap := m, fr := fr, next := 0 }).bind (fini res fr) := by
  rw [evCW_eq, h]
  simp only [Option.bind_some, hl, if_true]
  cases evW Φ code { env := initE 0 args, heap := m, fr := fr, next := 0 } with
  | none => rfl
  | some r =>
    obtain ⟨e, s⟩ := r
    cases e <;> simp only [Option.bind_some, back, fini]
    · cases rdRes s res with
      | none => rfl
      | some xs => simp only [Option.bind_some, finiK]; cases fins fr s.heap xs <;> rfl
    · cases rdRes s res with
      | none => rfl
      | some xs => simp only [Option.bind_some, finiK]; cases fins fr s.heap xs <;> rfl

abbrev i64 (n : Int) : Prop := -9223372036854775808 ≤ n ∧ n ≤ 9223372036854775807
theorem w64 {n : Int} (h : i64 n) : IntKind.wrap .i64 n = n := by
  obtain ⟨h1, h2⟩ := h
  simp only [IntKind.wrap, IntKind.signed, IntKind.bits, Bool.true_and, decide_eq_true_eq, ge_iff_le, Nat.reduceSub, Int.reducePow]
  by_cases h : 2 ^ 63 ≤ n % 2 ^ 64
  · simp only [Int.reducePow] at h
    rw [if_pos h]; omega
  · simp only [Int.reducePow] at h
    rw [if_neg h]; omega
theorem wf64 {n : Int} (h : (Lit.int .i64 n).wf = true) : i64 n := by
  simp [Lit.wf, IntKind.min, IntKind.max, IntKind.signed, IntKind.bits] at h
  omega
theorem w32 {n : Int} (h : -2147483648 ≤ n ∧ n ≤ 2147483647) : IntKind.wrap .i32 n = n := by
  obtain ⟨h1, h2⟩ := h
  simp only [IntKind.wrap, IntKind.signed, IntKind.bits, Bool.true_and, decide_eq_true_eq, ge_iff_le, Nat.reduceSub, Int.reducePow]
  by_cases h : 2 ^ 31 ≤ n % 2 ^ 32
  · simp only [Int.reducePow] at h
    rw [if_pos h]; omega
  · simp only [Int.reducePow] at h
    rw [if_neg h]; omega
theorem wu8 {n : Int} (h : 0 ≤ n ∧ n ≤ 255) : IntKind.wrap .u8 n = n := by
  obtain ⟨h1, h2⟩ := h
  simp only [IntKind.wrap, IntKind.signed, IntKind.bits]
  simp
  omega
theorem dropF_emp (fr : Nat) : dropF fr emp = emp := by
  funext id
  simp [dropF, emp]
theorem dropF_same (fr k : Nat) (h : Heap) (x : Option D) : dropF fr (upd h (fr, k) x) = dropF fr h := by
  funext id
  simp only [dropF, upd]
  split
  · rfl
  · split
    · rename_i h1 h2
      subst h2
      exact absurd rfl h1
    · rfl
theorem upd_upd {κ α : Type} [DecidableEq κ] (f : κ → Option α) (k : κ) (x y : Option α) : upd (upd f k x) k y = upd f k y := by
  funext j
  simp only [upd]
  split <;> rfl

/-! ### Steps that wait for what they need -/
def runI (C : Cl) (i : Nat) (l : List SItem) (st : St) : Option St := opsS C st i l
def guardK (C : Cl) (st : St) (id : Nat) (d : Option Nat) (o : SOp) (b : Bool) (c : Option Bool) : Option St := if c = some b then opS C st d id o else some (st.put d (.tup []))
theorem runI_nil (C : Cl) (i : Nat) (st : St) : runI C i [] st = some { st with next := st.next + i } := rfl
theorem runI_cons (C : Cl) (i : Nat) (d : Option Nat) (o : SOp) (l : List SItem) (st : St) : runI C i (⟨d, none, o⟩ :: l) st = (opS C st d (st.next + i) o).bind (runI C (i + 32) l) := rfl
theorem gX_bool (b : Bool) : gX (.d (.v (.bool b))) = some (some b) := rfl
theorem gX_un : gX (.tup []) = some none := rfl
theorem runI_guard (C : Cl) (i : Nat) (d : Option Nat) (s : Nat) (b : Bool) (o : SOp) (l : List SItem) (st : St) : runI C i (⟨d, some (s, b), o⟩ :: l) st = (((st.env s).bind gX).bind (guardK C st (st.next + i) d o b)).bind (runI C (i + 32) l) := rfl
theorem guardK_tt (C : Cl) (st : St) (id : Nat) (d : Option Nat) (o : SOp) : guardK C st id d o true (some true) = opS C st d id o := rfl
theorem guardK_ff (C : Cl) (st : St) (id : Nat) (d : Option Nat) (o : SOp) : guardK C st id d o false (some false) = opS C st d id o := rfl
theorem guardK_tf (C : Cl) (st : St) (id : Nat) (d : Option Nat) (o : SOp) : guardK C st id d o true (some false) = some (st.put d (.tup [])) := rfl
theorem guardK_ft (C : Cl) (st : St) (id : Nat) (d : Option Nat) (o : SOp) : guardK C st id d o false (some true) = some (st.put d (.tup [])) := rfl
theorem guardK_un (C : Cl) (st : St) (id : Nat) (d : Option Nat) (o : SOp) (b : Bool) : guardK C st id d o b none = some (st.put d (.tup [])) := rfl
noncomputable def condK (Φ : Nat → Option SFn) (a b : SCode) (st : St) : Bool → Option (Ex × St)
  | true => evW Φ a st
  | false => evW Φ b st
theorem condK_t (Φ : Nat → Option SFn) (a b : SCode) (st : St) : condK Φ a b st true = evW Φ a st := rfl
theorem condK_f (Φ : Nat → Option SFn) (a b : SCode) (st : St) : condK Φ a b st false = evW Φ b st := rfl
def nor (s : St) : Ex × St := (.nor, s)
theorem evW_ops' {Φ : Nat → Option SFn} (l : List SItem) (st : St) : evW Φ (.ops l) st = (runI (evCW Φ) 0 l st).map nor := evW_ops l st
noncomputable def runD (C : Cl) (b : Nat) (l : List DItem) (st : St) : Option St := opsD C b l st
noncomputable def reD (C : Cl) (b : Nat) (r : List SItem) (l : List DItem) (st : St) : Option St := (reS C st r).bind fun _ => opsD C b l st
theorem runD_nil (C : Cl) (b : Nat) (st : St) : runD C b [] st = some st := rfl
theorem runD_cons (C : Cl) (b : Nat) (d : Option Nat) (o : SOp) (ix : Nat) (r : List SItem) (l : List DItem) (st : St) : runD C b (⟨⟨d, none, o⟩, ix, r⟩ :: l) st = (opS C st d (b + 32 * ix) o).bind (reD C b r l) := rfl
theorem runD_guard (C : Cl) (b : Nat) (d : Option Nat) (s : Nat) (g : Bool) (o : SOp) (ix : Nat) (r : List SItem) (l : List DItem) (st : St) : runD C b (⟨⟨d, some (s, g), o⟩, ix, r⟩ :: l) st = (((st.env s).bind gX).bind (guardK C st (b + 32 * ix) d o g)).bind (reD C b r l) := rfl
theorem reD_nil (C : Cl) (b : Nat) (l : List DItem) (st : St) : reD C b [] l st = runD C b l st := rfl
noncomputable def reA (C : Cl) (b : Nat) (d : Option Nat) (r : List SItem) (l : List DItem) (st s2 : St) : Option St := (reK st d s2).bind fun _ => reD C b r l st
theorem reA_none (C : Cl) (b : Nat) (r : List SItem) (l : List DItem) (st s2 : St) : reA C b none r l st s2 = reD C b r l st := rfl
open Classical in
theorem reA_some (C : Cl) (b d : Nat) (r : List SItem) (l : List DItem) (st s2 : St) : reA C b (some d) r l st s2 = if s2.env d = st.env d then reD C b r l st else none := by
  unfold reA reK
  simp only
  split <;> rfl
theorem reD_cons (C : Cl) (b : Nat) (d : Option Nat) (o : SOp) (r : List SItem) (l : List DItem) (st : St) : reD C b (⟨d, none, o⟩ :: r) l st = (opS C st d 0 o).bind (reA C b d r l st) := by
  unfold reD reS
  simp only [itS]
  cases opS C st d 0 o with
  | none => rfl
  | some s2 => simp only [Option.bind_some, reA]; cases reK st d s2 <;> rfl
theorem reD_guard (C : Cl) (b : Nat) (d : Option Nat) (s : Nat) (g : Bool) (o : SOp) (r : List SItem) (l : List DItem) (st : St) : reD C b (⟨d, some (s, g), o⟩ :: r) l st = (((st.env s).bind gX).bind (guardK C st 0 d o g)).bind (reA C b d r l st) := by
  show ((((itS C st 0 ⟨d, some (s, g), o⟩).bind (reK st d)).bind fun _ => reS C st r).bind fun _ => opsD C b l st) = (itS C st 0 ⟨d, some (s, g), o⟩).bind (reA C b d r l st)
  cases itS C st 0 ⟨d, some (s, g), o⟩ with
  | none => rfl
  | some s2 => simp only [Option.bind_some, reA]; cases reK st d s2 <;> rfl
def norD (b n : Nat) (s : St) : Ex × St := (.nor, { s with next := b + 32 * n })
theorem norD_eq (b n : Nat) (s : St) : norD b n s = (.nor, { s with next := b + 32 * n }) := rfl
theorem evW_opsd' {Φ : Nat → Option SFn} (l : List DItem) (st : St) : evW Φ (.opsd l) st = (runD (evCW Φ) st.next l st).map (norD st.next l.length) := evW_opsd l st
theorem evW_cond' {Φ : Nat → Option SFn} (o : O) (a b : SCode) (st : St) : evW Φ (.cond o a b) st = (rdB st o).bind (condK Φ a b st) := by
  rw [evW_cond]
  congr 1
  funext t
  cases t <;> rfl
end Go.Ev
namespace Go.Ev
attribute [go_sem] opS_bos bosK_eq opS_idxb idxbK_eq idxbK2_eq
attribute [go_sem] evW_opsd' runD_nil runD_cons runD_guard reD_nil reD_cons reD_guard reA_none reA_some norD_eq
attribute [go_sem] evW_seq evW_cond' evW_block evW_skip evW_ret evW_exit evW_keep evW_ops' evW_loop evW_stuck nor next outOf runI_nil runI_cons runI_guard guardK_tt guardK_ff guardK_tf guardK_ft guardK_un gX_bool gX_un condK_t condK_f pickK_t pickK_f opS_mov opS_pick putI_eq putB_eq putS_eq opS_ari ariK_eq ariK2_eq opS_cmp cmpK_eq cmpK2_eq opS_cmpb cmpbK_eq cmpbK2_eq opS_cat catK_eq catK2_eq opS_neg negK_eq opS_not notK_eq opS_conv convK_eq opS_rune runeK_eq opS_sob sobK_eq sobK2_eq opS_fld fldK_eq opS_faddr faddrK_eq opS_ixa ixaK_eq ixaK2_eq opS_ixs ixsK_eq ixsK2_eq byteK_eq opS_load loadK_eq loadK2_eq storE_eq storD_eq storC_eq storB_eq storL_eq loseK_eq opS_store storeK_eq storeK2_eq storeV_eq storeVd_eq opS_box boxK_eq boxK2_eq opS_vbox vboxK_eq vboxK2_eq opS_mm mmK_eq mmK2_t mmK2_f eqaK4_t eqaK4_f eqaK3_eq eqaK2_eq eqaK1_eq opS_eqa eqaK_eq aggOf_agg eqAggK_eq eqAgg_nil eqAgg_cons opS_alloc opS_build aggK_eq fillX_nil fillX_cons fillK_eq fillK2_eq opS_lit litK_eq elsK3_eq elsK2_eq elsK_eq takeEls_nil takeEls_cons opS_mk mkK_eq opS_cutr cutrK_eq cutrK2_eq cutrK3_eq opS_cutS cutSK_eq cutSK2_eq cutSK3_eq opS_len lenK_eq lenK2_eq opS_slen slenK_eq opS_app appK_eq appK2_eq appK3_eq appK4_eq opS_fn fnK_eq landK_eq opS_call callK_eq callK2_eq callK3_eq opS_callr callrK_eq callrK2_eq callrK3_eq opS_calli calliK_eq calliK1_eq calliK2_eq calliK3_eq opS_callb callbK_eq callbK2_eq callbK3_eq callbK4_eq callbK5_eq opS_ext extK_eq opS_nck nckK_eq rdO rdI rdB rdS X.int X.bool X.str cmpX cmpI cmpS cmpB ariV St.put St.lose St.with upd_apply emp_apply initE fini finX keepH addN offL kid dropF_emp dropF_same D.rowOf bytesX bytesL loadV one setCells fldX roArgs roAll D.noR frzT frzL iso_call calleeX fnOf bound setX upd_upd roF lentH apart apart1 backH noRB inLent inL purge_ap hitK_eq purgeL_ap lentK_eq purgeN_ap rootK_eq rootL List.isPrefixOf hitL Path.under X_cells_d X_cells_agg X_cells_tup X_cells_ref X_cells_ptr X_cells_rop X_cells_vp X_cells_clo X_cellsV_d X_cellsV_agg X_cellsV_tup X_cellsV_ref X_cellsV_ptr X_cellsV_rop X_cellsV_vp X_cellsV_clo X_hitC_d X_hitC_agg X_hitC_tup X_hitC_ref X_hitC_ptr X_hitC_rop X_hitC_vp X_hitC_clo X_hit_d X_hit_agg X_hit_tup X_hit_ref X_hit_ptr X_hit_rop X_hit_vp X_hit_clo X_rootC_d X_rootC_agg X_rootC_tup X_rootC_ref X_rootC_ptr X_rootC_rop X_rootC_vp X_rootC_clo X_root_d X_root_agg X_root_tup X_root_ref X_root_ptr X_root_rop X_root_vp X_root_clo X_inC_d X_inC_agg X_inC_tup X_inC_ref X_inC_ptr X_inC_rop X_inC_vp X_inC_clo X_inV_d X_inV_agg X_inV_tup X_inV_ref X_inV_ptr X_inV_rop X_inV_vp X_inV_clo X_roC_d X_roC_agg X_roC_tup X_roC_ref X_roC_ptr X_roC_rop X_roC_vp X_roC_clo X_roV_d X_roV_agg X_roV_tup X_roV_ref X_roV_ptr X_roV_rop X_roV_vp X_roV_clo X_noP_d X_noP_agg X_noP_tup X_noP_ref X_noP_ptr X_noP_rop X_noP_vp X_noP_clo X_noRC_d X_noRC_agg X_noRC_tup X_noRC_ref X_noRC_ptr X_noRC_rop X_noRC_vp X_noRC_clo X_noRV_d X_noRV_agg X_noRV_tup X_noRV_ref X_noRV_ptr X_noRV_rop X_noRV_vp X_noRV_clo X_noR_d X_noR_agg X_noR_tup X_noR_ref X_noR_ptr X_noR_rop X_noR_vp X_noR_clo X_frzC_dv X_frzC_dr X_frzC_du X_frzC_ds X_frzC_agg X_frzC_tup X_frzC_ref X_frzC_ptr X_frzC_rop X_frzC_vp X_frzC_clo X_frzV_d X_frzV_agg X_frzV_tup X_frzV_ref X_frzV_ptr X_frzV_rop X_frzV_vp X_frzV_clo X_frz_d X_frz_agg X_frz_tup X_frz_ref X_frz_ptr X_frz_rop X_frz_vp X_frz_clo X_flat_d X_flat_agg X_flat_tup X_flat_ref X_flat_ptr X_flat_rop X_flat_vp X_flat_clo X_keeps_d X_keeps_agg X_keeps_tup X_keeps_ref X_keeps_ptr X_keeps_rop X_keeps_vp X_keeps_clo X_offC_d X_offC_agg X_offC_tup X_offC_ref X_offC_ptr X_offC_rop X_offC_vp X_offC_clo X_offs_d X_offs_agg X_offs_tup X_offs_ref X_offs_ptr X_offs_rop X_offs_vp X_offs_clo X_renC_d X_renC_agg X_renC_tup X_renC_ref X_renC_ptr X_renC_rop X_renC_vp X_renC_clo X_ren_d X_ren_agg X_ren_tup X_ren_ref X_ren_ptr X_ren_rop X_ren_vp X_ren_clo takeX_dv takeX_dr takeX_dn takeX_du takeX_ref snapC_dv snapC_dr snapC_dn snapC_du snapC_ref snap_d snap_agg snap_tup snap_ref snap_ptr snap_rop snap_vp snap_clo finC_dv finC_dr finC_dn finC_du finC_ref finC_ptr finV_d finV_agg finV_tup finV_ref finV_ptr finV_rop finV_vp finV_clo impC_dv impC_dr impC_du impC_ds impC_agg impC_tup impC_ref impC_ptr impC_rop impC_vp impC_clo impV_d impV_agg impV_tup impV_ref impV_ptr impV_rop impV_vp impV_clo impR_d impR_agg impR_tup impR_ref impR_ptr impR_rop impR_vp impR_clo X_ncells_d X_ncells_agg X_ncells_tup X_ncells_ref X_ncells_ptr X_ncells_rop X_ncells_vp X_ncells_clo borC_dv borC_dr borC_dn borC_du borC_ref borC_ptr borV_d borV_agg borV_tup borV_ref borV_ptr borV_rop borV_vp borV_clo plainL_v plainL_s plainL_r plainL_u plainL_nil snapK_eq finK_eq finK2_eq borK_eq borK2_eq consX_eq consDH_eq consXH_eq rdOs_nil rdOs_cons rdOsK_eq takeL_nil takeL_cons takeLK_eq finL_nil finL_cons finLK_eq fins_nil fins_cons finsK_eq snapL_nil snapL_cons snapLK_eq snaps_nil snaps_cons snapsK_eq snapF_nil snapF_t snapF_f snapFK_eq borLK2_eq borL_nil borL_cons borLK_eq borAK0_eq borA_nil borA_t borA_f borAK_eq nav_nil navB_eq navA_eq nav_s hnav_eq hrow_eq putCK_eq putBK_eq putAK_eq put_nil put_s hputK2_eq hputK_eq hput_eq take0_eq htake_nil take2_eq take1_eq htake_cons putb_nil putb_cons own_v own_s own_r own_u ownL_nil ownLK_eq ownL_cons ro_v ro_s ro_r ro_u roL_nil roLK_eq roL_cons loadL_rop loadL_vp ldB_eq ldA_eq loadL_ptr faddrX_ptr faddrX_rop faddrX_vp ixB_eq ixaX_r ixC_eq ixaX_ref lenX_r lenX_n lenR_eq lenX_ref nonnil_ptr nonnil_rop nonnil_vp srcR_eq srcEls_n srcEls_r srcEls_ref baseR_eq baseEls_n baseEls_ref rdRes_nil rdResK_eq rdRes_t rdResC_eq rdRes_c packK_1 packK_0 packK_2 finXK_eq packH_1 packH_0 packH_2 finiK_eq kmK2_t kmK2_f kmK_some kmK_none keepM_nil keepM_cons keK2_t keK2_f keK_some keK_none keepE_nil keepE_cons ksK_eq keepO_eq keepS_nil keepS_cons iceS_eq iceE_ptr iceH_s ice_v ice_r ice_s impK2_eq impLK_eq impL_nil impL_cons impTK_eq impT_nil impT_cons
attribute [go_sem] Int.cast_ofNat_Int List.size_toArray Option.bind_some Option.map_some Option.bind_none Option.map_none Option.getD_some Option.getD_none Option.isSome_some Option.isSome_none List.find?_nil List.find?_cons List.length_cons List.length_nil List.all_cons List.all_nil List.map_cons List.map_nil List.append_nil List.nil_append List.cons_append List.isEmpty_cons List.isEmpty_nil Bool.and_true Bool.true_and Bool.and_false Bool.false_and Bool.or_true Bool.true_or Bool.or_false Bool.false_or Bool.not_true Bool.not_false and_true true_and and_self and_false false_and or_true true_or or_false false_or not_true_eq_false not_false_eq_true decide_true decide_false eq_self if_true if_false Bool.false_eq_true beq_self_eq_true Prod.mk.injEq Nat.zero_add Nat.add_zero List.drop_zero List.take_zero List.drop_succ_cons List.take_succ_cons List.take_nil List.drop_nil List.getElem?_cons_zero List.getElem?_cons_succ List.getElem?_nil List.set_cons_zero List.set_cons_succ Nat.le_refl ite_self ne_eq
theorem tdiv_nn {n : Int} (h : 0 ≤ n) (k : Nat) : n.tdiv k = ((n.natAbs / k : Nat) : Int) := by
  obtain ⟨m, rfl⟩ := Int.eq_ofNat_of_zero_le h
  simp [Int.tdiv]
theorem tmod_nn {n : Int} (h : 0 ≤ n) (k : Nat) : n.tmod k = ((n.natAbs % k : Nat) : Int) := by
  obtain ⟨m, rfl⟩ := Int.eq_ofNat_of_zero_le h
  simp [Int.tmod]
theorem tdiv_np {n : Int} (h : n ≤ 0) (k : Nat) : n.tdiv k = -((n.natAbs / k : Nat) : Int) := by
  obtain ⟨m, hm⟩ := Int.eq_ofNat_of_zero_le (show 0 ≤ -n by omega)
  obtain rfl : n = -(m : Int) := by omega
  rw [Int.neg_tdiv, tdiv_nn (by omega)]
  simp
theorem tmod_np {n : Int} (h : n ≤ 0) (k : Nat) : n.tmod k = -((n.natAbs % k : Nat) : Int) := by
  obtain ⟨m, hm⟩ := Int.eq_ofNat_of_zero_le (show 0 ≤ -n by omega)
  obtain rfl : n = -(m : Int) := by omega
  rw [Int.neg_tmod, tmod_nn (by omega)]
  simp
end Go.Ev
namespace Go.Ev
/-! ### Conditions that the discharger decides -/
theorem ltT {a b : Int} (h : a < b) : (a < b) = True := eq_true h
theorem ltF {a b : Int} (h : ¬ a < b) : (a < b) = False := eq_false h
theorem leT {a b : Int} (h : a ≤ b) : (a ≤ b) = True := eq_true h
theorem leF {a b : Int} (h : ¬ a ≤ b) : (a ≤ b) = False := eq_false h
theorem neF {a b : Int} (h : ¬ a = b) : (a = b) = False := eq_false h
theorem catT {a b : ByteArray} (h : catOk a b) : catOk a b = True := eq_true h
theorem mkT {a : Nat} {b : Int} (h : mkOk a b) : mkOk a b = True := eq_true h
theorem appT {a b c : Nat} (h : appOk a b c) : appOk a b c = True := eq_true h
theorem size_lit (l : List UInt8) : (⟨l.toArray⟩ : ByteArray).size = l.length := rfl
theorem fzl_idem_v : ∀ (l : List D), (∀ d ∈ l, ∃ x, d = .v x) → fzl l = l
  | [], _ => by simp [fzl]
  | d :: l, h => by
    obtain ⟨x, rfl⟩ := h d (by simp)
    simp only [fzl, D.fz, fzl_idem_v l (fun d hd => h d (by simp [hd]))]
theorem fzs_map {α : Type} (f : α → List D) (g : α → List D) (h : ∀ a, fzl (f a) = g a) : ∀ xs : List α, fzs (xs.map f) = xs.map g
  | [] => by simp [fzs]
  | x :: xs => by simp only [List.map_cons, fzs, h, fzs_map f g h xs]
theorem wrap_id {n : Int} (h : -9223372036854775808 ≤ n ∧ n ≤ 9223372036854775807) : IntKind.i64.wrap n = n := w64 h
attribute [go_sem] fzl D.fz
end Go.Ev

namespace Go.Ev
/-! ### Rows by lists -/
theorem dropF_z (h : Heap) (k : Nat) (x : Option D) : dropF 1 (upd h (0, k) x) = upd (dropF 1 h) (0, k) x := by
  funext id
  simp only [dropF, upd]
  by_cases e : id = (0, k)
  · subst e; simp
  · simp [e]
theorem upd_swap {κ α : Type} [DecidableEq κ] (f : κ → Option α) (i j : κ) (x y : Option α) (h : i ≠ j) : upd (upd f i x) j y = upd (upd f j y) i x := by
  funext k
  simp only [upd]
  by_cases e : k = j
  · subst e; simp [Ne.symm h]
  · simp [e]
theorem swap01 (f : Heap) (x y : Option D) : upd (upd f (0, 0) x) (0, 1) y = upd (upd f (0, 1) y) (0, 0) x := upd_swap f _ _ x y (by simp)
theorem swap02 (f : Heap) (x y : Option D) : upd (upd f (0, 0) x) (0, 2) y = upd (upd f (0, 2) y) (0, 0) x := upd_swap f _ _ x y (by simp)
theorem swap03 (f : Heap) (x y : Option D) : upd (upd f (0, 0) x) (0, 3) y = upd (upd f (0, 3) y) (0, 0) x := upd_swap f _ _ x y (by simp)
theorem swap04 (f : Heap) (x y : Option D) : upd (upd f (0, 0) x) (0, 4) y = upd (upd f (0, 4) y) (0, 0) x := upd_swap f _ _ x y (by simp)
theorem swap05 (f : Heap) (x y : Option D) : upd (upd f (0, 0) x) (0, 5) y = upd (upd f (0, 5) y) (0, 0) x := upd_swap f _ _ x y (by simp)
theorem swap12 (f : Heap) (x y : Option D) : upd (upd f (0, 1) x) (0, 2) y = upd (upd f (0, 2) y) (0, 1) x := upd_swap f _ _ x y (by simp)
theorem swap13 (f : Heap) (x y : Option D) : upd (upd f (0, 1) x) (0, 3) y = upd (upd f (0, 3) y) (0, 1) x := upd_swap f _ _ x y (by simp)
theorem swap14 (f : Heap) (x y : Option D) : upd (upd f (0, 1) x) (0, 4) y = upd (upd f (0, 4) y) (0, 1) x := upd_swap f _ _ x y (by simp)
theorem swap15 (f : Heap) (x y : Option D) : upd (upd f (0, 1) x) (0, 5) y = upd (upd f (0, 5) y) (0, 1) x := upd_swap f _ _ x y (by simp)
theorem swap23 (f : Heap) (x y : Option D) : upd (upd f (0, 2) x) (0, 3) y = upd (upd f (0, 3) y) (0, 2) x := upd_swap f _ _ x y (by simp)
theorem swap24 (f : Heap) (x y : Option D) : upd (upd f (0, 2) x) (0, 4) y = upd (upd f (0, 4) y) (0, 2) x := upd_swap f _ _ x y (by simp)
theorem swap25 (f : Heap) (x y : Option D) : upd (upd f (0, 2) x) (0, 5) y = upd (upd f (0, 5) y) (0, 2) x := upd_swap f _ _ x y (by simp)
theorem swap34 (f : Heap) (x y : Option D) : upd (upd f (0, 3) x) (0, 4) y = upd (upd f (0, 4) y) (0, 3) x := upd_swap f _ _ x y (by simp)
theorem swap35 (f : Heap) (x y : Option D) : upd (upd f (0, 3) x) (0, 5) y = upd (upd f (0, 5) y) (0, 3) x := upd_swap f _ _ x y (by simp)
theorem swap45 (f : Heap) (x y : Option D) : upd (upd f (0, 4) x) (0, 5) y = upd (upd f (0, 5) y) (0, 4) x := upd_swap f _ _ x y (by simp)
theorem get_mid {α β : Type} (f : α → β) (A : List α) (e : β) (r : List β) : (A.map f ++ e :: r)[A.length]? = some e := by
  rw [List.getElem?_append_right (by simp)]
  simp
theorem set_mid {α β : Type} (f : α → β) (A : List α) (e e' : β) (r : List β) : (A.map f ++ e :: r).set A.length e' = A.map f ++ e' :: r := by
  rw [List.set_append_right _ _ (by simp)]
  simp
theorem len_cat {α β : Type} (f : α → β) (A : List α) (r : List β) : (A.map f ++ r).length = A.length + r.length := by simp
abbrev numR (ns : List Int) : List (List D) := ns.map fun n => [DI n]
theorem fzs_numR (ns : List Int) : fzs (numR ns) = numR ns := fzs_map _ _ (fun n => by simp only [fzl, D.fz]) ns
theorem noRss_map {α : Type} (f : α → List D) (h : ∀ a, D.noR.noRs (f a) = true) : ∀ xs : List α, D.noR.noRss (xs.map f) = true
  | [] => by simp [D.noR.noRss]
  | x :: xs => by simp only [List.map_cons, D.noR.noRss, h x, noRss_map f h xs, Bool.and_self]
theorem noR_numR (ns : List Int) : D.noR.noRss (numR ns) = true := noRss_map _ (fun n => by simp [D.noR.noRs, D.noR]) ns
theorem beq_pair (a b c d : Nat) : (((a, b) : Nat × Nat) == (c, d)) = (a == c && b == d) := rfl
attribute [go_sem] beq_pair dropF_z swap01 swap02 swap03 swap04 swap05 swap12 swap13 swap14 swap15 swap23 swap24 swap25 swap34 swap35 swap45 D.noR.noRs
theorem fit_int {c : List D} (h : fitL [.i .i64] c) : ∃ n : Int, c = [DI n] ∧ i64 n := by
  simp only [fitL, fit] at h
  obtain ⟨_, _, rfl, ⟨n, rfl, hn⟩, rfl⟩ := h
  exact ⟨n, rfl, wf64 hn⟩
/-- What is said of lists, of their elements and sizes. -/
theorem fit_all {α : Type} {enc : α → List D} {ok : α → Prop} {ts : List Ty} (h : ∀ c, fitL ts c → ∃ x, c = enc x ∧ ok x) : ∀ {els : List (List D)}, (∀ c ∈ els, fitL ts c) → ∃ xs : List α, els = xs.map enc ∧ ∀ x ∈ xs, ok x
  | [], _ => ⟨[], rfl, by simp⟩
  | c :: els, hc => by
    obtain ⟨x, rfl, h1⟩ := h c (hc c (by simp))
    obtain ⟨xs, rfl, h2⟩ := fit_all h (els := els) (fun c' h' => hc c' (by simp [h']))
    exact ⟨x :: xs, rfl, fun y hy => by
      rcases List.mem_cons.1 hy with rfl | hy
      · exact h1
      · exact h2 y hy⟩
end Go.Ev
namespace Go.Ev
/-! ### Where a condition is not decided: in two ways -/
theorem condK_d (Φ : Nat → Option SFn) (a b : SCode) (st : St) (p : Prop) [Decidable p] : condK Φ a b st (decide p) = if p then evW Φ a st else evW Φ b st := by
  by_cases h : p <;> simp [h, condK]
theorem condK_n (Φ : Nat → Option SFn) (a b : SCode) (st : St) (c : Bool) : condK Φ a b st (!c) = condK Φ b a st c := by cases c <;> rfl
theorem condK_b (Φ : Nat → Option SFn) (a b : SCode) (st : St) (c : Bool) : condK Φ a b st c = if c = true then evW Φ a st else evW Φ b st := by cases c <;> rfl
theorem condK_bt (Φ : Nat → Option SFn) (a b : SCode) (st : St) {c : Bool} (h : c = true) : condK Φ a b st c = evW Φ a st := by subst h; rfl
theorem condK_bf (Φ : Nat → Option SFn) (a b : SCode) (st : St) {c : Bool} (h : ¬ c = true) : condK Φ a b st c = evW Φ b st := by
  cases c
  · rfl
  · exact absurd rfl h
theorem condK_bg (Φ : Nat → Option SFn) (a b : SCode) (st : St) {c : Bool} (h : c = false) : condK Φ a b st c = evW Φ b st := by subst h; rfl
theorem guardK_dt (C : Cl) (st : St) (id : Nat) (d : Option Nat) (o : SOp) (p : Prop) [Decidable p] : guardK C st id d o true (some (decide p)) = if p then opS C st d id o else some (st.put d (.tup [])) := by
  by_cases h : p <;> simp [h, guardK]
theorem guardK_df (C : Cl) (st : St) (id : Nat) (d : Option Nat) (o : SOp) (p : Prop) [Decidable p] : guardK C st id d o false (some (decide p)) = if p then some (st.put d (.tup [])) else opS C st d id o := by
  by_cases h : p <;> simp [h, guardK]
theorem guardK_nt (C : Cl) (st : St) (id : Nat) (d : Option Nat) (o : SOp) (c : Bool) : guardK C st id d o true (some (!c)) = guardK C st id d o false (some c) := by cases c <;> rfl
theorem guardK_nf (C : Cl) (st : St) (id : Nat) (d : Option Nat) (o : SOp) (c : Bool) : guardK C st id d o false (some (!c)) = guardK C st id d o true (some c) := by cases c <;> rfl
theorem guardK_bt (C : Cl) (st : St) (id : Nat) (d : Option Nat) (o : SOp) (c : Bool) : guardK C st id d o true (some c) = if c = true then opS C st d id o else some (st.put d (.tup [])) := by cases c <;> rfl
theorem guardK_bf (C : Cl) (st : St) (id : Nat) (d : Option Nat) (o : SOp) (c : Bool) : guardK C st id d o false (some c) = if c = true then some (st.put d (.tup [])) else opS C st d id o := by cases c <;> rfl
theorem guardK_tT (C : Cl) (st : St) (id : Nat) (d : Option Nat) (o : SOp) {c : Bool} (h : c = true) : guardK C st id d o true (some c) = opS C st d id o := by subst h; rfl
theorem guardK_fT (C : Cl) (st : St) (id : Nat) (d : Option Nat) (o : SOp) {c : Bool} (h : c = true) : guardK C st id d o false (some c) = some (st.put d (.tup [])) := by subst h; rfl
theorem guardK_tF (C : Cl) (st : St) (id : Nat) (d : Option Nat) (o : SOp) {c : Bool} (h : ¬ c = true) : guardK C st id d o true (some c) = some (st.put d (.tup [])) := by
  cases c
  · rfl
  · exact absurd rfl h
theorem guardK_fF (C : Cl) (st : St) (id : Nat) (d : Option Nat) (o : SOp) {c : Bool} (h : ¬ c = true) : guardK C st id d o false (some c) = opS C st d id o := by
  cases c
  · rfl
  · exact absurd rfl h
theorem guardK_tG (C : Cl) (st : St) (id : Nat) (d : Option Nat) (o : SOp) {c : Bool} (h : c = false) : guardK C st id d o true (some c) = some (st.put d (.tup [])) := by subst h; rfl
theorem guardK_fG (C : Cl) (st : St) (id : Nat) (d : Option Nat) (o : SOp) {c : Bool} (h : c = false) : guardK C st id d o false (some c) = opS C st d id o := by subst h; rfl
theorem pickK_d (st : St) (d : Option Nat) (a b : O) (p : Prop) [Decidable p] : pickK st d a b (decide p) = if p then (rdO st a).map (st.put d) else (rdO st b).map (st.put d) := by
  by_cases h : p <;> simp [h, pickK]
theorem pickK_b (st : St) (d : Option Nat) (a b : O) (c : Bool) : pickK st d a b c = if c = true then (rdO st a).map (st.put d) else (rdO st b).map (st.put d) := by cases c <;> rfl
theorem pickK_n (st : St) (d : Option Nat) (a b : O) (c : Bool) : pickK st d a b (!c) = pickK st d b a c := by cases c <;> rfl
theorem pickK_bt (st : St) (d : Option Nat) (a b : O) {c : Bool} (h : c = true) : pickK st d a b c = (rdO st a).map (st.put d) := by subst h; rfl
theorem pickK_bf (st : St) (d : Option Nat) (a b : O) {c : Bool} (h : ¬ c = true) : pickK st d a b c = (rdO st b).map (st.put d) := by
  cases c
  · rfl
  · exact absurd rfl h
theorem pickK_bg (st : St) (d : Option Nat) (a b : O) {c : Bool} (h : c = false) : pickK st d a b c = (rdO st b).map (st.put d) := by subst h; rfl
theorem eqT {a b : Int} (h : a = b) : (a = b) = True := eq_true h
theorem baT {a b : ByteArray} (h : a = b) : (a = b) = True := eq_true h
theorem baF {a b : ByteArray} (h : ¬ a = b) : (a = b) = False := eq_false h
theorem bvT {c : Bool} (h : c = true) : (c = true) = True := eq_true h
theorem bvF {c : Bool} (h : ¬ c = true) : (c = true) = False := eq_false h
/-- The first of what is left of a list, from a place on. -/
theorem dropc {α : Type} {xs : List α} {j : Int} {x : α} {B : List α} (h : xs.drop j.toNat = x :: B) (h0 : 0 ≤ j) : xs[j.toNat]? = some x ∧ j < xs.length ∧ xs.drop (j + 1).toNat = B ∧ x ∈ xs ∧ (xs.length : Int) = j + 1 + B.length := by
  have h1 : j.toNat < xs.length := by
    apply Decidable.byContradiction
    intro h2
    rw [List.drop_eq_nil_of_le (by omega)] at h
    simp at h
  have h2 := List.drop_eq_getElem_cons h1
  rw [h] at h2
  simp only [List.cons.injEq] at h2
  have h3 : (j + 1).toNat = j.toNat + 1 := by omega
  have h4 := congrArg List.length h
  simp only [List.length_drop, List.length_cons] at h4
  exact ⟨by rw [List.getElem?_eq_getElem h1, ← h2.1], by omega, by rw [h3]; exact h2.2.symm, by rw [h2.1]; exact List.getElem_mem h1, by omega⟩
theorem dropn {α : Type} {xs : List α} {j : Int} (h : xs.drop j.toNat = []) (h0 : 0 ≤ j) : (xs.length : Int) ≤ j := by
  have := List.drop_eq_nil_iff.1 h
  omega
theorem getm {α β : Type} (f : α → β) {xs : List α} {k : Nat} {x : α} (h : xs[k]? = some x) : (xs.map f)[k]? = some (f x) := by
  rw [List.getElem?_map, h]; rfl
/-- The place of the first element that is as told; -1 without one. -/
def firstIx {α : Type} (p : α → Bool) : Int → List α → Int
  | _, [] => -1
  | j, x :: xs => if p x = true then j else firstIx p (j + 1) xs
theorem firstIx_any {α : Type} (p : α → Bool) : ∀ {xs : List α} (j : Int), 0 ≤ j → xs.any p = decide (0 ≤ firstIx p j xs)
  | [], j, _ => by simp [firstIx]
  | x :: xs, j, h => by
    rw [List.any_cons, firstIx]
    by_cases hp : p x = true
    · rw [if_pos hp, hp, decide_eq_true h]; rfl
    · rw [if_neg hp, ← firstIx_any p (j + 1) (by omega)]
      simp [hp]
attribute [go_sem] noRT List.sum_cons List.sum_nil
/-! ### slices.Clone -/
theorem clone_call {Φ : Nat → Option SFn} {f nt sz bytes : Nat} (h : Φ f = some ⟨1, nt, .clone sz [⟨some 5, none, .lit sz []⟩, ⟨some 6, none, .mov (.t 0)⟩, ⟨some 7, none, .app sz bytes (.t 5) (.t 6)⟩, ⟨some 2, none, .mov (.t 7)⟩], [.t 2]⟩) (els : List (List D)) (ha : appOk bytes 0 els.length) (hl : (els.all fun el => el.length == sz) = true) :
    call Φ f [.d (.r els)] = some (.d (.s sz (els.map fun el => el.map D.toR))) := by
  rw [call_of h _ rfl, evW_clone]
  have hl' : (els.map fun el => el.map D.toR).all (fun el => el.length == sz) = true := by simpa using hl
  have ha' : appOk bytes ([] : List (List D)).length (els.map fun el => el.map D.toR).length := by simpa using ha
  simp only [initE, upd, if_true, Option.bind_some, X.elsOf, cloneS, opsS, itS, opS, rdO, takeEls, Option.map_some, St.put, St.with, Nat.reduceEqDiff, if_false, baseEls, srcEls, Heap.take, Heap.row, Heap.nav, D.nav, D.rowOf, ha', hl', and_self]
  simp [cloneF, upd, emp, X.rowId, D.rowOf, finX, rdRes, finXK, fins, finV, finC, Heap.take, Heap.row, Heap.nav, D.nav, packed, ha', hl', opsS]
  rfl
theorem getI (ns : List Int) {j : Int} (h0 : 0 ≤ j) (h1 : j < ns.length) : ∃ v, (numR ns)[j.toNat]? = some [DI v] ∧ ns[j.toNat]? = some v := by
  have h2 : j.toNat < ns.length := by omega
  exact ⟨ns[j.toNat], by simp [h2], by simp [h2]⟩
end Go.Ev
