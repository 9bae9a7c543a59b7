/- What small functions are at each kind of value: written by mkcases.py. -/
import Derived.Test.YtcoigakalblkgaaEvSim
set_option linter.all false
namespace Go.Ev
def snapK (r : Nat × List (List D)) : X := .d (.r (fzs r.2))
theorem snapK_eq (sz : Nat) (e : List (List D)) : snapK (sz, e) = .d (.r (fzs e)) := rfl
def finK (a : D × Heap) : X × Heap := (.d a.1, a.2)
theorem finK_eq (d : D) (h : Heap) : finK (d, h) = (.d d, h) := rfl
def finK2 (a : List X × Heap) : X × Heap := (.agg a.1, a.2)
theorem finK2_eq (d : List X) (h : Heap) : finK2 (d, h) = (.agg d, h) := rfl
def borK (y : X) (i : Id) (p : Path) (a : D × Heap) : X × Heap × Lent := (y, a.2, [(i, p, a.1)])
theorem borK_eq (y : X) (i : Id) (p : Path) (d : D) (h : Heap) : borK y i p (d, h) = (y, h, [(i, p, d)]) := rfl
def borK2 (a : List X × Heap × Lent) : X × Heap × Lent := (.agg a.1, a.2)
theorem borK2_eq (d : List X) (h : Heap) (L : Lent) : borK2 (d, h, L) = (.agg d, h, L) := rfl
theorem X_cells_d  (c : D) : X.cells (.d c) = [(.d c)] := rfl
theorem X_cells_agg  (cs : List X) : X.cells (.agg cs) = cs := rfl
theorem X_cells_tup  (cs : List X) : X.cells (.tup cs) = [(.tup cs)] := rfl
theorem X_cells_ref  (i : Id) (p : Path) : X.cells (.ref i p) = [(.ref i p)] := rfl
theorem X_cells_ptr  (i : Id) (p : Path) (j k : Nat) : X.cells (.ptr i p j k) = [(.ptr i p j k)] := rfl
theorem X_cells_rop  (ds : List D) : X.cells (.rop ds) = [(.rop ds)] := rfl
theorem X_cells_vp  (cs : List X) : X.cells (.vp cs) = [(.vp cs)] := rfl
theorem X_cells_clo  (f : Nat) (cs : List X) : X.cells (.clo f cs) = [(.clo f cs)] := rfl
theorem X_cellsV_d  (c : D) : X.cellsV (.d c) = some [(.d c)] := rfl
theorem X_cellsV_agg  (cs : List X) : X.cellsV (.agg cs) = some cs := rfl
theorem X_cellsV_tup  (cs : List X) : X.cellsV (.tup cs) = none := rfl
theorem X_cellsV_ref  (i : Id) (p : Path) : X.cellsV (.ref i p) = some [(.ref i p)] := rfl
theorem X_cellsV_ptr  (i : Id) (p : Path) (j k : Nat) : X.cellsV (.ptr i p j k) = some [(.ptr i p j k)] := rfl
theorem X_cellsV_rop  (ds : List D) : X.cellsV (.rop ds) = some [(.rop ds)] := rfl
theorem X_cellsV_vp  (cs : List X) : X.cellsV (.vp cs) = some [(.vp cs)] := rfl
theorem X_cellsV_clo  (f : Nat) (cs : List X) : X.cellsV (.clo f cs) = some [(.clo f cs)] := rfl
theorem X_hitC_d (id : Id) (q : Path) (a b n : Nat) (c : D) : X.hitC id q a b n (.d c) = false := rfl
theorem X_hitC_agg (id : Id) (q : Path) (a b n : Nat) (cs : List X) : X.hitC id q a b n (.agg cs) = true := rfl
theorem X_hitC_tup (id : Id) (q : Path) (a b n : Nat) (cs : List X) : X.hitC id q a b n (.tup cs) = true := rfl
theorem X_hitC_ref (id : Id) (q : Path) (a b n : Nat) (i : Id) (p : Path) : X.hitC id q a b n (.ref i p) = (i == id && Path.under q a b n p) := rfl
theorem X_hitC_ptr (id : Id) (q : Path) (a b n : Nat) (i : Id) (p : Path) (j k : Nat) : X.hitC id q a b n (.ptr i p j k) = (i == id && Path.under q a b n p) := rfl
theorem X_hitC_rop (id : Id) (q : Path) (a b n : Nat) (ds : List D) : X.hitC id q a b n (.rop ds) = false := rfl
theorem X_hitC_vp (id : Id) (q : Path) (a b n : Nat) (cs : List X) : X.hitC id q a b n (.vp cs) = true := rfl
theorem X_hitC_clo (id : Id) (q : Path) (a b n : Nat) (f : Nat) (cs : List X) : X.hitC id q a b n (.clo f cs) = true := rfl
theorem X_hit_d (id : Id) (q : Path) (a b n : Nat) (c : D) : X.hit id q a b n (.d c) = X.hitC id q a b n (.d c) := rfl
theorem X_hit_agg (id : Id) (q : Path) (a b n : Nat) (cs : List X) : X.hit id q a b n (.agg cs) = hitL id q a b n cs := rfl
theorem X_hit_tup (id : Id) (q : Path) (a b n : Nat) (cs : List X) : X.hit id q a b n (.tup cs) = true := rfl
theorem X_hit_ref (id : Id) (q : Path) (a b n : Nat) (i : Id) (p : Path) : X.hit id q a b n (.ref i p) = X.hitC id q a b n (.ref i p) := rfl
theorem X_hit_ptr (id : Id) (q : Path) (a b n : Nat) (i : Id) (p : Path) (j k : Nat) : X.hit id q a b n (.ptr i p j k) = X.hitC id q a b n (.ptr i p j k) := rfl
theorem X_hit_rop (id : Id) (q : Path) (a b n : Nat) (ds : List D) : X.hit id q a b n (.rop ds) = X.hitC id q a b n (.rop ds) := rfl
theorem X_hit_vp (id : Id) (q : Path) (a b n : Nat) (cs : List X) : X.hit id q a b n (.vp cs) = hitL id q a b n cs := rfl
theorem X_hit_clo (id : Id) (q : Path) (a b n : Nat) (f : Nat) (cs : List X) : X.hit id q a b n (.clo f cs) = X.hitC id q a b n (.clo f cs) := rfl
theorem X_rootC_d  (c : D) : X.rootC (.d c) = true := rfl
theorem X_rootC_agg  (cs : List X) : X.rootC (.agg cs) = false := rfl
theorem X_rootC_tup  (cs : List X) : X.rootC (.tup cs) = false := rfl
theorem X_rootC_ref  (i : Id) (p : Path) : X.rootC (.ref i p) = p.isEmpty := rfl
theorem X_rootC_ptr  (i : Id) (p : Path) (j k : Nat) : X.rootC (.ptr i p j k) = p.isEmpty := rfl
theorem X_rootC_rop  (ds : List D) : X.rootC (.rop ds) = true := rfl
theorem X_rootC_vp  (cs : List X) : X.rootC (.vp cs) = false := rfl
theorem X_rootC_clo  (f : Nat) (cs : List X) : X.rootC (.clo f cs) = false := rfl
theorem X_root_d  (c : D) : X.root (.d c) = X.rootC (.d c) := rfl
theorem X_root_agg  (cs : List X) : X.root (.agg cs) = rootL cs := rfl
theorem X_root_tup  (cs : List X) : X.root (.tup cs) = X.rootC (.tup cs) := rfl
theorem X_root_ref  (i : Id) (p : Path) : X.root (.ref i p) = X.rootC (.ref i p) := rfl
theorem X_root_ptr  (i : Id) (p : Path) (j k : Nat) : X.root (.ptr i p j k) = X.rootC (.ptr i p j k) := rfl
theorem X_root_rop  (ds : List D) : X.root (.rop ds) = X.rootC (.rop ds) := rfl
theorem X_root_vp  (cs : List X) : X.root (.vp cs) = rootL cs := rfl
theorem X_root_clo  (f : Nat) (cs : List X) : X.root (.clo f cs) = rootL cs := rfl
theorem X_inC_d (id : Id) (q : Path) (c : D) : X.inC id q (.d c) = false := rfl
theorem X_inC_agg (id : Id) (q : Path) (cs : List X) : X.inC id q (.agg cs) = true := rfl
theorem X_inC_tup (id : Id) (q : Path) (cs : List X) : X.inC id q (.tup cs) = true := rfl
theorem X_inC_ref (id : Id) (q : Path) (i : Id) (p : Path) : X.inC id q (.ref i p) = (decide (i = id) && q.isPrefixOf p && !decide (p = q)) := rfl
theorem X_inC_ptr (id : Id) (q : Path) (i : Id) (p : Path) (j k : Nat) : X.inC id q (.ptr i p j k) = (decide (i = id) && q.isPrefixOf p && !decide (p = q)) := rfl
theorem X_inC_rop (id : Id) (q : Path) (ds : List D) : X.inC id q (.rop ds) = false := rfl
theorem X_inC_vp (id : Id) (q : Path) (cs : List X) : X.inC id q (.vp cs) = true := rfl
theorem X_inC_clo (id : Id) (q : Path) (f : Nat) (cs : List X) : X.inC id q (.clo f cs) = true := rfl
theorem X_inV_d (id : Id) (q : Path) (c : D) : X.inV id q (.d c) = X.inC id q (.d c) := rfl
theorem X_inV_agg (id : Id) (q : Path) (cs : List X) : X.inV id q (.agg cs) = inL id q cs := rfl
theorem X_inV_tup (id : Id) (q : Path) (cs : List X) : X.inV id q (.tup cs) = X.inC id q (.tup cs) := rfl
theorem X_inV_ref (id : Id) (q : Path) (i : Id) (p : Path) : X.inV id q (.ref i p) = X.inC id q (.ref i p) := rfl
theorem X_inV_ptr (id : Id) (q : Path) (i : Id) (p : Path) (j k : Nat) : X.inV id q (.ptr i p j k) = X.inC id q (.ptr i p j k) := rfl
theorem X_inV_rop (id : Id) (q : Path) (ds : List D) : X.inV id q (.rop ds) = X.inC id q (.rop ds) := rfl
theorem X_inV_vp (id : Id) (q : Path) (cs : List X) : X.inV id q (.vp cs) = inL id q cs := rfl
theorem X_inV_clo (id : Id) (q : Path) (f : Nat) (cs : List X) : X.inV id q (.clo f cs) = inL id q cs := rfl
theorem X_roC_d  (c : D) : X.roC (.d c) = true := rfl
theorem X_roC_agg  (cs : List X) : X.roC (.agg cs) = false := rfl
theorem X_roC_tup  (cs : List X) : X.roC (.tup cs) = false := rfl
theorem X_roC_ref  (i : Id) (p : Path) : X.roC (.ref i p) = false := rfl
theorem X_roC_ptr  (i : Id) (p : Path) (j k : Nat) : X.roC (.ptr i p j k) = false := rfl
theorem X_roC_rop  (ds : List D) : X.roC (.rop ds) = false := rfl
theorem X_roC_vp  (cs : List X) : X.roC (.vp cs) = false := rfl
theorem X_roC_clo  (f : Nat) (cs : List X) : X.roC (.clo f cs) = false := rfl
theorem X_roV_d  (c : D) : X.roV (.d c) = X.roC (.d c) := rfl
theorem X_roV_agg  (cs : List X) : X.roV (.agg cs) = roAll cs := rfl
theorem X_roV_tup  (cs : List X) : X.roV (.tup cs) = X.roC (.tup cs) := rfl
theorem X_roV_ref  (i : Id) (p : Path) : X.roV (.ref i p) = X.roC (.ref i p) := rfl
theorem X_roV_ptr  (i : Id) (p : Path) (j k : Nat) : X.roV (.ptr i p j k) = X.roC (.ptr i p j k) := rfl
theorem X_roV_rop  (ds : List D) : X.roV (.rop ds) = X.roC (.rop ds) := rfl
theorem X_roV_vp  (cs : List X) : X.roV (.vp cs) = X.roC (.vp cs) := rfl
theorem X_roV_clo  (f : Nat) (cs : List X) : X.roV (.clo f cs) = X.roC (.clo f cs) := rfl
theorem X_noP_d  (c : D) : X.noP (.d c) = X.roV (.d c) := rfl
theorem X_noP_agg  (cs : List X) : X.noP (.agg cs) = X.roV (.agg cs) := rfl
theorem X_noP_tup  (cs : List X) : X.noP (.tup cs) = roArgs cs := rfl
theorem X_noP_ref  (i : Id) (p : Path) : X.noP (.ref i p) = X.roV (.ref i p) := rfl
theorem X_noP_ptr  (i : Id) (p : Path) (j k : Nat) : X.noP (.ptr i p j k) = X.roV (.ptr i p j k) := rfl
theorem X_noP_rop  (ds : List D) : X.noP (.rop ds) = X.roV (.rop ds) := rfl
theorem X_noP_vp  (cs : List X) : X.noP (.vp cs) = X.roV (.vp cs) := rfl
theorem X_noP_clo  (f : Nat) (cs : List X) : X.noP (.clo f cs) = X.roV (.clo f cs) := rfl
theorem X_noRC_d  (c : D) : X.noRC (.d c) = c.noR := rfl
theorem X_noRC_agg  (cs : List X) : X.noRC (.agg cs) = false := rfl
theorem X_noRC_tup  (cs : List X) : X.noRC (.tup cs) = false := rfl
theorem X_noRC_ref  (i : Id) (p : Path) : X.noRC (.ref i p) = false := rfl
theorem X_noRC_ptr  (i : Id) (p : Path) (j k : Nat) : X.noRC (.ptr i p j k) = false := rfl
theorem X_noRC_rop  (ds : List D) : X.noRC (.rop ds) = false := rfl
theorem X_noRC_vp  (cs : List X) : X.noRC (.vp cs) = false := rfl
theorem X_noRC_clo  (f : Nat) (cs : List X) : X.noRC (.clo f cs) = false := rfl
theorem X_noRV_d  (c : D) : X.noRV (.d c) = X.noRC (.d c) := rfl
theorem X_noRV_agg  (cs : List X) : X.noRV (.agg cs) = noRL cs := rfl
theorem X_noRV_tup  (cs : List X) : X.noRV (.tup cs) = X.noRC (.tup cs) := rfl
theorem X_noRV_ref  (i : Id) (p : Path) : X.noRV (.ref i p) = X.noRC (.ref i p) := rfl
theorem X_noRV_ptr  (i : Id) (p : Path) (j k : Nat) : X.noRV (.ptr i p j k) = X.noRC (.ptr i p j k) := rfl
theorem X_noRV_rop  (ds : List D) : X.noRV (.rop ds) = X.noRC (.rop ds) := rfl
theorem X_noRV_vp  (cs : List X) : X.noRV (.vp cs) = X.noRC (.vp cs) := rfl
theorem X_noRV_clo  (f : Nat) (cs : List X) : X.noRV (.clo f cs) = X.noRC (.clo f cs) := rfl
theorem X_noR_d  (c : D) : X.noR (.d c) = X.noRV (.d c) := rfl
theorem X_noR_agg  (cs : List X) : X.noR (.agg cs) = X.noRV (.agg cs) := rfl
theorem X_noR_tup  (cs : List X) : X.noR (.tup cs) = noRT cs := rfl
theorem X_noR_ref  (i : Id) (p : Path) : X.noR (.ref i p) = X.noRV (.ref i p) := rfl
theorem X_noR_ptr  (i : Id) (p : Path) (j k : Nat) : X.noR (.ptr i p j k) = X.noRV (.ptr i p j k) := rfl
theorem X_noR_rop  (ds : List D) : X.noR (.rop ds) = X.noRV (.rop ds) := rfl
theorem X_noR_vp  (cs : List X) : X.noR (.vp cs) = X.noRV (.vp cs) := rfl
theorem X_noR_clo  (f : Nat) (cs : List X) : X.noR (.clo f cs) = X.noRV (.clo f cs) := rfl
theorem X_frzC_dv  (x : Value) : X.frzC (.d (.v x)) = (.d (.v x)) := rfl
theorem X_frzC_dr  (e : List (List D)) : X.frzC (.d (.r e)) = (.d (.r e)) := rfl
theorem X_frzC_du   : X.frzC (.d .u) = (.d .u) := rfl
theorem X_frzC_ds  (sz : Nat) (e : List (List D)) : X.frzC (.d (.s sz e)) = .d (.r (fzs e)) := rfl
theorem X_frzC_agg  (cs : List X) : X.frzC (.agg cs) = (.agg cs) := rfl
theorem X_frzC_tup  (cs : List X) : X.frzC (.tup cs) = (.tup cs) := rfl
theorem X_frzC_ref  (i : Id) (p : Path) : X.frzC (.ref i p) = (.ref i p) := rfl
theorem X_frzC_ptr  (i : Id) (p : Path) (j k : Nat) : X.frzC (.ptr i p j k) = (.ptr i p j k) := rfl
theorem X_frzC_rop  (ds : List D) : X.frzC (.rop ds) = (.rop ds) := rfl
theorem X_frzC_vp  (cs : List X) : X.frzC (.vp cs) = (.vp cs) := rfl
theorem X_frzC_clo  (f : Nat) (cs : List X) : X.frzC (.clo f cs) = (.clo f cs) := rfl
theorem X_frzV_d  (c : D) : X.frzV (.d c) = X.frzC (.d c) := rfl
theorem X_frzV_agg  (cs : List X) : X.frzV (.agg cs) = .agg (frzL cs) := rfl
theorem X_frzV_tup  (cs : List X) : X.frzV (.tup cs) = X.frzC (.tup cs) := rfl
theorem X_frzV_ref  (i : Id) (p : Path) : X.frzV (.ref i p) = X.frzC (.ref i p) := rfl
theorem X_frzV_ptr  (i : Id) (p : Path) (j k : Nat) : X.frzV (.ptr i p j k) = X.frzC (.ptr i p j k) := rfl
theorem X_frzV_rop  (ds : List D) : X.frzV (.rop ds) = X.frzC (.rop ds) := rfl
theorem X_frzV_vp  (cs : List X) : X.frzV (.vp cs) = X.frzC (.vp cs) := rfl
theorem X_frzV_clo  (f : Nat) (cs : List X) : X.frzV (.clo f cs) = X.frzC (.clo f cs) := rfl
theorem X_frz_d  (c : D) : X.frz (.d c) = X.frzV (.d c) := rfl
theorem X_frz_agg  (cs : List X) : X.frz (.agg cs) = X.frzV (.agg cs) := rfl
theorem X_frz_tup  (cs : List X) : X.frz (.tup cs) = .tup (frzT cs) := rfl
theorem X_frz_ref  (i : Id) (p : Path) : X.frz (.ref i p) = X.frzV (.ref i p) := rfl
theorem X_frz_ptr  (i : Id) (p : Path) (j k : Nat) : X.frz (.ptr i p j k) = X.frzV (.ptr i p j k) := rfl
theorem X_frz_rop  (ds : List D) : X.frz (.rop ds) = X.frzV (.rop ds) := rfl
theorem X_frz_vp  (cs : List X) : X.frz (.vp cs) = X.frzV (.vp cs) := rfl
theorem X_frz_clo  (f : Nat) (cs : List X) : X.frz (.clo f cs) = X.frzV (.clo f cs) := rfl
theorem X_flat_d  (c : D) : X.flat (.d c) = true := rfl
theorem X_flat_agg  (cs : List X) : X.flat (.agg cs) = false := rfl
theorem X_flat_tup  (cs : List X) : X.flat (.tup cs) = false := rfl
theorem X_flat_ref  (i : Id) (p : Path) : X.flat (.ref i p) = true := rfl
theorem X_flat_ptr  (i : Id) (p : Path) (j k : Nat) : X.flat (.ptr i p j k) = true := rfl
theorem X_flat_rop  (ds : List D) : X.flat (.rop ds) = true := rfl
theorem X_flat_vp  (cs : List X) : X.flat (.vp cs) = false := rfl
theorem X_flat_clo  (f : Nat) (cs : List X) : X.flat (.clo f cs) = false := rfl
theorem X_keeps_d  (c : D) : X.keeps (.d c) = true := rfl
theorem X_keeps_agg  (cs : List X) : X.keeps (.agg cs) = cs.all X.flat := rfl
theorem X_keeps_tup  (cs : List X) : X.keeps (.tup cs) = false := rfl
theorem X_keeps_ref  (i : Id) (p : Path) : X.keeps (.ref i p) = true := rfl
theorem X_keeps_ptr  (i : Id) (p : Path) (j k : Nat) : X.keeps (.ptr i p j k) = true := rfl
theorem X_keeps_rop  (ds : List D) : X.keeps (.rop ds) = true := rfl
theorem X_keeps_vp  (cs : List X) : X.keeps (.vp cs) = cs.all X.flat := rfl
theorem X_keeps_clo  (f : Nat) (cs : List X) : X.keeps (.clo f cs) = cs.all X.flat := rfl
theorem X_offC_d (fr : Nat) (c : D) : X.offC fr (.d c) = [] := rfl
theorem X_offC_agg (fr : Nat) (cs : List X) : X.offC fr (.agg cs) = [] := rfl
theorem X_offC_tup (fr : Nat) (cs : List X) : X.offC fr (.tup cs) = [] := rfl
theorem X_offC_ref (fr : Nat) (i : Id) (p : Path) : X.offC fr (.ref i p) = if i.1 = fr then [i.2] else [] := rfl
theorem X_offC_ptr (fr : Nat) (i : Id) (p : Path) (j k : Nat) : X.offC fr (.ptr i p j k) = if i.1 = fr then [i.2] else [] := rfl
theorem X_offC_rop (fr : Nat) (ds : List D) : X.offC fr (.rop ds) = [] := rfl
theorem X_offC_vp (fr : Nat) (cs : List X) : X.offC fr (.vp cs) = [] := rfl
theorem X_offC_clo (fr : Nat) (f : Nat) (cs : List X) : X.offC fr (.clo f cs) = [] := rfl
theorem X_offs_d (fr : Nat) (c : D) : X.offs fr (.d c) = X.offC fr (.d c) := rfl
theorem X_offs_agg (fr : Nat) (cs : List X) : X.offs fr (.agg cs) = offL fr cs := rfl
theorem X_offs_tup (fr : Nat) (cs : List X) : X.offs fr (.tup cs) = X.offC fr (.tup cs) := rfl
theorem X_offs_ref (fr : Nat) (i : Id) (p : Path) : X.offs fr (.ref i p) = X.offC fr (.ref i p) := rfl
theorem X_offs_ptr (fr : Nat) (i : Id) (p : Path) (j k : Nat) : X.offs fr (.ptr i p j k) = X.offC fr (.ptr i p j k) := rfl
theorem X_offs_rop (fr : Nat) (ds : List D) : X.offs fr (.rop ds) = X.offC fr (.rop ds) := rfl
theorem X_offs_vp (fr : Nat) (cs : List X) : X.offs fr (.vp cs) = offL fr cs := rfl
theorem X_offs_clo (fr : Nat) (f : Nat) (cs : List X) : X.offs fr (.clo f cs) = offL fr cs := rfl
theorem X_renC_d (g : Id → Id) (c : D) : X.renC g (.d c) = (.d c) := rfl
theorem X_renC_agg (g : Id → Id) (cs : List X) : X.renC g (.agg cs) = (.agg cs) := rfl
theorem X_renC_tup (g : Id → Id) (cs : List X) : X.renC g (.tup cs) = (.tup cs) := rfl
theorem X_renC_ref (g : Id → Id) (i : Id) (p : Path) : X.renC g (.ref i p) = .ref (g i) p := rfl
theorem X_renC_ptr (g : Id → Id) (i : Id) (p : Path) (j k : Nat) : X.renC g (.ptr i p j k) = .ptr (g i) p j k := rfl
theorem X_renC_rop (g : Id → Id) (ds : List D) : X.renC g (.rop ds) = (.rop ds) := rfl
theorem X_renC_vp (g : Id → Id) (cs : List X) : X.renC g (.vp cs) = (.vp cs) := rfl
theorem X_renC_clo (g : Id → Id) (f : Nat) (cs : List X) : X.renC g (.clo f cs) = (.clo f cs) := rfl
theorem X_ren_d (g : Id → Id) (c : D) : X.ren g (.d c) = X.renC g (.d c) := rfl
theorem X_ren_agg (g : Id → Id) (cs : List X) : X.ren g (.agg cs) = .agg (cs.map (X.renC g)) := rfl
theorem X_ren_tup (g : Id → Id) (cs : List X) : X.ren g (.tup cs) = X.renC g (.tup cs) := rfl
theorem X_ren_ref (g : Id → Id) (i : Id) (p : Path) : X.ren g (.ref i p) = X.renC g (.ref i p) := rfl
theorem X_ren_ptr (g : Id → Id) (i : Id) (p : Path) (j k : Nat) : X.ren g (.ptr i p j k) = X.renC g (.ptr i p j k) := rfl
theorem X_ren_rop (g : Id → Id) (ds : List D) : X.ren g (.rop ds) = X.renC g (.rop ds) := rfl
theorem X_ren_vp (g : Id → Id) (cs : List X) : X.ren g (.vp cs) = .vp (cs.map (X.renC g)) := rfl
theorem X_ren_clo (g : Id → Id) (f : Nat) (cs : List X) : X.ren g (.clo f cs) = .clo f (cs.map (X.renC g)) := rfl
theorem takeX_dv (h : Heap) (x : Value) : takeX h (.d (.v x)) = some (.v x, h) := rfl
theorem takeX_dr (h : Heap) (e : List (List D)) : takeX h (.d (.r e)) = some (.r e, h) := rfl
theorem takeX_dn (h : Heap) (sz : Nat) : takeX h (.d (.s sz [])) = some (.s sz [], h) := rfl
theorem takeX_du (h : Heap)  : takeX h (.d .u) = none := rfl
theorem takeX_ref (h : Heap) (i : Id) (p : Path) : takeX h (.ref i p) = h.take i p := rfl
theorem snapC_dv (h : Heap) (x : Value) : snapC h (.d (.v x)) = some (.d (.v x)) := rfl
theorem snapC_dr (h : Heap) (e : List (List D)) : snapC h (.d (.r e)) = some (.d (.r e)) := rfl
theorem snapC_dn (h : Heap) (sz : Nat) : snapC h (.d (.s sz [])) = some (.d (.r [])) := rfl
theorem snapC_du (h : Heap)  : snapC h (.d .u) = none := rfl
theorem snapC_ref (h : Heap) (i : Id) (p : Path) : snapC h (.ref i p) = (h.row i p).map snapK := rfl
theorem snap_d (h : Heap) (c : D) : snap h (.d c) = snapC h (.d c) := rfl
theorem snap_agg (h : Heap) (cs : List X) : snap h (.agg cs) = (snapL h cs).map .agg := rfl
theorem snap_tup (h : Heap) (cs : List X) : snap h (.tup cs) = snapC h (.tup cs) := rfl
theorem snap_ref (h : Heap) (i : Id) (p : Path) : snap h (.ref i p) = snapC h (.ref i p) := rfl
theorem snap_ptr (h : Heap) (i : Id) (p : Path) (j k : Nat) : snap h (.ptr i p j k) = snapC h (.ptr i p j k) := rfl
theorem snap_rop (h : Heap) (ds : List D) : snap h (.rop ds) = snapC h (.rop ds) := rfl
theorem snap_vp (h : Heap) (cs : List X) : snap h (.vp cs) = snapC h (.vp cs) := rfl
theorem snap_clo (h : Heap) (f : Nat) (cs : List X) : snap h (.clo f cs) = snapC h (.clo f cs) := rfl
theorem finC_dv (fr : Nat) (h : Heap) (x : Value) : finC fr h (.d (.v x)) = some (.d (.v x), h) := rfl
theorem finC_dr (fr : Nat) (h : Heap) (e : List (List D)) : finC fr h (.d (.r e)) = some (.d (.r e), h) := rfl
theorem finC_dn (fr : Nat) (h : Heap) (sz : Nat) : finC fr h (.d (.s sz [])) = some (.d (.s sz []), h) := rfl
theorem finC_du (fr : Nat) (h : Heap)  : finC fr h (.d .u) = none := rfl
theorem finC_ref (fr : Nat) (h : Heap) (i : Id) (p : Path) : finC fr h (.ref i p) = if i.1 = fr then (h.take i p).map finK else some (.ref i p, h) := rfl
theorem finC_ptr (fr : Nat) (h : Heap) (i : Id) (p : Path) (j k : Nat) : finC fr h (.ptr i p j k) = if i.1 = fr then none else some (.ptr i p j k, h) := rfl
theorem finV_d (fr : Nat) (h : Heap) (c : D) : finV fr h (.d c) = finC fr h (.d c) := rfl
theorem finV_agg (fr : Nat) (h : Heap) (cs : List X) : finV fr h (.agg cs) = (finL fr h cs).map finK2 := rfl
theorem finV_tup (fr : Nat) (h : Heap) (cs : List X) : finV fr h (.tup cs) = finC fr h (.tup cs) := rfl
theorem finV_ref (fr : Nat) (h : Heap) (i : Id) (p : Path) : finV fr h (.ref i p) = finC fr h (.ref i p) := rfl
theorem finV_ptr (fr : Nat) (h : Heap) (i : Id) (p : Path) (j k : Nat) : finV fr h (.ptr i p j k) = finC fr h (.ptr i p j k) := rfl
theorem finV_rop (fr : Nat) (h : Heap) (ds : List D) : finV fr h (.rop ds) = finC fr h (.rop ds) := rfl
theorem finV_vp (fr : Nat) (h : Heap) (cs : List X) : finV fr h (.vp cs) = finC fr h (.vp cs) := rfl
theorem finV_clo (fr : Nat) (h : Heap) (f : Nat) (cs : List X) : finV fr h (.clo f cs) = finC fr h (.clo f cs) := rfl
theorem impC_dv (h : Heap) (id : Id) (x : Value) : impC h id (.d (.v x)) = ((.d (.v x)), h) := rfl
theorem impC_dr (h : Heap) (id : Id) (e : List (List D)) : impC h id (.d (.r e)) = ((.d (.r e)), h) := rfl
theorem impC_du (h : Heap) (id : Id)  : impC h id (.d .u) = ((.d .u), h) := rfl
theorem impC_ds (h : Heap) (id : Id) (sz : Nat) (e : List (List D)) : impC h id (.d (.s sz e)) = (.ref id [], upd h id (some (.s sz e))) := rfl
theorem impC_agg (h : Heap) (id : Id) (cs : List X) : impC h id (.agg cs) = ((.agg cs), h) := rfl
theorem impC_tup (h : Heap) (id : Id) (cs : List X) : impC h id (.tup cs) = ((.tup cs), h) := rfl
theorem impC_ref (h : Heap) (id : Id) (i : Id) (p : Path) : impC h id (.ref i p) = ((.ref i p), h) := rfl
theorem impC_ptr (h : Heap) (id : Id) (i : Id) (p : Path) (j k : Nat) : impC h id (.ptr i p j k) = ((.ptr i p j k), h) := rfl
theorem impC_rop (h : Heap) (id : Id) (ds : List D) : impC h id (.rop ds) = ((.rop ds), h) := rfl
theorem impC_vp (h : Heap) (id : Id) (cs : List X) : impC h id (.vp cs) = ((.vp cs), h) := rfl
theorem impC_clo (h : Heap) (id : Id) (f : Nat) (cs : List X) : impC h id (.clo f cs) = ((.clo f cs), h) := rfl
theorem impV_d (h : Heap) (id : Id) (c : D) : impV h id (.d c) = impC h id (.d c) := rfl
theorem impV_agg (h : Heap) (id : Id) (cs : List X) : impV h id (.agg cs) = (.agg (impL h id cs).1, (impL h id cs).2) := rfl
theorem impV_tup (h : Heap) (id : Id) (cs : List X) : impV h id (.tup cs) = impC h id (.tup cs) := rfl
theorem impV_ref (h : Heap) (id : Id) (i : Id) (p : Path) : impV h id (.ref i p) = impC h id (.ref i p) := rfl
theorem impV_ptr (h : Heap) (id : Id) (i : Id) (p : Path) (j k : Nat) : impV h id (.ptr i p j k) = impC h id (.ptr i p j k) := rfl
theorem impV_rop (h : Heap) (id : Id) (ds : List D) : impV h id (.rop ds) = impC h id (.rop ds) := rfl
theorem impV_vp (h : Heap) (id : Id) (cs : List X) : impV h id (.vp cs) = impC h id (.vp cs) := rfl
theorem impV_clo (h : Heap) (id : Id) (f : Nat) (cs : List X) : impV h id (.clo f cs) = impC h id (.clo f cs) := rfl
theorem impR_d (h : Heap) (id : Id) (c : D) : impR h id (.d c) = impV h id (.d c) := rfl
theorem impR_agg (h : Heap) (id : Id) (cs : List X) : impR h id (.agg cs) = impV h id (.agg cs) := rfl
theorem impR_tup (h : Heap) (id : Id) (cs : List X) : impR h id (.tup cs) = (.tup (impT h id cs).1, (impT h id cs).2) := rfl
theorem impR_ref (h : Heap) (id : Id) (i : Id) (p : Path) : impR h id (.ref i p) = impV h id (.ref i p) := rfl
theorem impR_ptr (h : Heap) (id : Id) (i : Id) (p : Path) (j k : Nat) : impR h id (.ptr i p j k) = impV h id (.ptr i p j k) := rfl
theorem impR_rop (h : Heap) (id : Id) (ds : List D) : impR h id (.rop ds) = impV h id (.rop ds) := rfl
theorem impR_vp (h : Heap) (id : Id) (cs : List X) : impR h id (.vp cs) = impV h id (.vp cs) := rfl
theorem impR_clo (h : Heap) (id : Id) (f : Nat) (cs : List X) : impR h id (.clo f cs) = impV h id (.clo f cs) := rfl
theorem X_ncells_d  (c : D) : X.ncells (.d c) = (X.cells (.d c)).length := rfl
theorem X_ncells_agg  (cs : List X) : X.ncells (.agg cs) = (X.cells (.agg cs)).length := rfl
theorem X_ncells_tup  (cs : List X) : X.ncells (.tup cs) = (cs.map fun x => x.cells.length).sum := rfl
theorem X_ncells_ref  (i : Id) (p : Path) : X.ncells (.ref i p) = (X.cells (.ref i p)).length := rfl
theorem X_ncells_ptr  (i : Id) (p : Path) (j k : Nat) : X.ncells (.ptr i p j k) = (X.cells (.ptr i p j k)).length := rfl
theorem X_ncells_rop  (ds : List D) : X.ncells (.rop ds) = (X.cells (.rop ds)).length := rfl
theorem X_ncells_vp  (cs : List X) : X.ncells (.vp cs) = (X.cells (.vp cs)).length := rfl
theorem X_ncells_clo  (f : Nat) (cs : List X) : X.ncells (.clo f cs) = (X.cells (.clo f cs)).length := rfl
theorem borC_dv (h : Heap) (n : Nat) (x : Value) : borC h n (.d (.v x)) = some (.d (.v x), h, []) := rfl
theorem borC_dr (h : Heap) (n : Nat) (e : List (List D)) : borC h n (.d (.r e)) = some (.d (.r e), h, []) := rfl
theorem borC_dn (h : Heap) (n : Nat) (sz : Nat) : borC h n (.d (.s sz [])) = some (.d (.s sz []), h, []) := rfl
theorem borC_du (h : Heap) (n : Nat)  : borC h n (.d .u) = none := rfl
theorem borC_ref (h : Heap) (n : Nat) (i : Id) (p : Path) : borC h n (.ref i p) = (h.take i p).map (borK (.ref (0, n) []) i p) := rfl
theorem borC_ptr (h : Heap) (n : Nat) (i : Id) (p : Path) (j k : Nat) : borC h n (.ptr i p j k) = (h.take i p).map (borK (.ptr (0, n) [] j k) i p) := rfl
theorem borV_d (h : Heap) (n : Nat) (c : D) : borV h n (.d c) = borC h n (.d c) := rfl
theorem borV_agg (h : Heap) (n : Nat) (cs : List X) : borV h n (.agg cs) = (borL h n cs).map borK2 := rfl
theorem borV_tup (h : Heap) (n : Nat) (cs : List X) : borV h n (.tup cs) = borC h n (.tup cs) := rfl
theorem borV_ref (h : Heap) (n : Nat) (i : Id) (p : Path) : borV h n (.ref i p) = borC h n (.ref i p) := rfl
theorem borV_ptr (h : Heap) (n : Nat) (i : Id) (p : Path) (j k : Nat) : borV h n (.ptr i p j k) = borC h n (.ptr i p j k) := rfl
theorem borV_rop (h : Heap) (n : Nat) (ds : List D) : borV h n (.rop ds) = borC h n (.rop ds) := rfl
theorem borV_vp (h : Heap) (n : Nat) (cs : List X) : borV h n (.vp cs) = borC h n (.vp cs) := rfl
theorem borV_clo (h : Heap) (n : Nat) (f : Nat) (cs : List X) : borV h n (.clo f cs) = borC h n (.clo f cs) := rfl
theorem plainL_v (x : Value) (cs : List D) : plainL (.v x :: cs) = plainL cs := rfl
theorem plainL_s (sz : Nat) (e : List (List D)) (cs : List D) : plainL (.s sz e :: cs) = false := rfl
theorem plainL_r (e : List (List D)) (cs : List D) : plainL (.r e :: cs) = false := rfl
theorem plainL_u (cs : List D) : plainL (.u :: cs) = false := rfl
theorem plainL_nil : plainL [] = true := rfl
end Go.Ev
